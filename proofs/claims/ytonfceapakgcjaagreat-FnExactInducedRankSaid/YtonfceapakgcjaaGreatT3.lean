import Derived.Test.YtonfceapakgcjaaGreatV2
import Derived.Test.YtonfceapakgcjaaGreatProg
import Derived.KernelRfl
set_option linter.unusedVariables false
set_option linter.unusedSimpArgs false
open Go Go.Proofs Ve
set_option linter.unusedVariables false
set_option maxRecDepth 100000
namespace VeT
abbrev yM : Ty := .cons (.int .i64) (.cons (.int .i64) (.cons (.int .i64) (.cons (.sl (.int .i64)) .nil)))
abbrev yI : Ty := .int .i64
abbrev yL : Ty := .sl yI
abbrev yK : Ty := .sl yL
abbrev yN : Ty := .sl (.st yM)
abbrev yS : Ty := .cons yK (.cons yI (.cons yL (.cons yN .nil)))
abbrev vM := Int × Int × Int × List Int × Unit
abbrev vK := List (List Int)
abbrev vN := List vM
abbrev vS := vK × Int × List Int × vN × Unit
noncomputable def bodyOf (f:Func):Code := f.body.getD .skip
def zd:Nat → List Ve.V → List Ve.V
  | 0,t => t
  | n + 1,t => V.dead::zd n t
def zo:Nat → List (Option Ve.Obj) → List (Option Ve.Obj)
  | 0,t => t
  | n + 1,t => none::zo n t
@[reducible] def n_Z63:Nat := 10
@[reducible] def n_Z67:Nat := 11
@[reducible] def n_Z70:Nat := 13
@[reducible] def n_Z66:Nat := 15
@[reducible] def n_Z64:Nat := 16
@[reducible] def n_Z71:Nat := 21
@[reducible] def n_Z65:Nat := 23
@[reducible] def n_Z97:Nat := 44
@[reducible] def n_Z5:Nat := 45
@[reducible] def n_Z69:Nat := 46
@[reducible] def n_Z126:Nat := 47
@[reducible] def n_Z127:Nat := 48
@[reducible] def n_Z72:Nat := 49
@[reducible] def n_Z33:Nat := 51
@[reducible] def n_Z128:Nat := 55
@[reducible] def n_Z16:Nat := 59
@[reducible] def n_Z105:Nat := 60
@[reducible] def n_Z133:Nat := 61
@[reducible] def n_Z119:Nat := 62
@[reducible] def n_Z123:Nat := 63
@[reducible] def n_Z135:Nat := 64
@[reducible] def n_Z19:Nat := 65
@[reducible] def n_Z18:Nat := 66
@[reducible] def n_Z68:Nat := 67
@[reducible] def n_Z54:Nat := 73
@[reducible] def n_Z101:Nat := 80
@[reducible] def n_Z134:Nat := 81
@[reducible] def n_Z47:Nat := 83
@[reducible] def n_Z34:Nat := 84
@[reducible] def n_Z106:Nat := 92
@[reducible] def n_Z116:Nat := 93
@[reducible] def n_Z115:Nat := 94
@[reducible] def n_Z15:Nat := 95
@[reducible] def n_Z35:Nat := 96
@[reducible] def n_Z124:Nat := 97
@[reducible] def n_Z98:Nat := 98
@[reducible] def n_Z129:Nat := 99
@[reducible] def n_Z109:Nat := 100
@[reducible] def n_Z8:Nat := 101
@[reducible] def n_Z10:Nat := 102
@[reducible] def n_Z39:Nat := 103
@[reducible] def n_Z53:Nat := 104
@[reducible] def n_Z46:Nat := 105
@[reducible] def n_Z17:Nat := 106
@[reducible] def n_Z132:Nat := 109
@[reducible] def n_Z112:Nat := 110
@[reducible] def n_Z113:Nat := 111
@[reducible] def n_Z121:Nat := 112
@[reducible] def n_Z130:Nat := 113
@[reducible] def n_Z44:Nat := 115
@[reducible] def n_Z57:Nat := 118
@[reducible] def n_Z56:Nat := 120
@[reducible] def n_Z20:Nat := 121
@[reducible] def n_Z100:Nat := 122
@[reducible] def n_Z138:Nat := 123
@[reducible] def n_Z140:Nat := 124
@[reducible] def n_Z139:Nat := 125
@[reducible] def n_Z61:Nat := 126
@[reducible] def n_Z55:Nat := 127
@[reducible] def n_Z95:Nat := 128
@[reducible] def n_Z36:Nat := 129
@[reducible] def n_Z14:Nat := 130
@[reducible] def n_Z38:Nat := 131
@[reducible] def n_Z137:Nat := 140
@[reducible] def n_Z122:Nat := 141
@[reducible] def n_Z40:Nat := 143
@[reducible] def n_Z59:Nat := 144
@[reducible] def n_Z96:Nat := 145
@[reducible] def n_Z76:Nat := 146
@[reducible] def n_Z24:Nat := 147
@[reducible] def n_Z21:Nat := 149
@[reducible] def n_Z114:Nat := 157
@[reducible] def n_Z25:Nat := 158
@[reducible] def n_Z7:Nat := 159
@[reducible] def n_Z22:Nat := 160
@[reducible] def n_Z125:Nat := 161
@[reducible] def n_Z118:Nat := 162
@[reducible] def n_Z120:Nat := 163
@[reducible] def n_Z131:Nat := 164
@[reducible] def n_Z111:Nat := 165
@[reducible] def n_Z99:Nat := 166
@[reducible] def n_Z110:Nat := 167
@[reducible] def n_Z11:Nat := 168
@[reducible] def n_Z79:Nat := 169
@[reducible] def n_Z29:Nat := 170
@[reducible] def n_Z9:Nat := 171
@[reducible] def n_Z60:Nat := 172
@[reducible] def n_Z52:Nat := 173
@[reducible] def n_Z26:Nat := 174
@[reducible] def n_Z85:Nat := 175
@[reducible] def n_Z51:Nat := 176
@[reducible] def n_Z28:Nat := 177
@[reducible] def n_Z108:Nat := 178
@[reducible] def n_Z82:Nat := 179
@[reducible] def n_Z45:Nat := 180
@[reducible] def n_Z30:Nat := 182
@[reducible] def n_Z58:Nat := 183
@[reducible] def n_Z6:Nat := 184
@[reducible] def n_Z78:Nat := 185
@[reducible] def n_Z136:Nat := 186
@[reducible] def n_Z62:Nat := 187
@[reducible] def n_Z73:Nat := 188
@[reducible] def n_Z102:Nat := 202
@[reducible] def n_Z104:Nat := 203
@[reducible] def n_Z41:Nat := 204
@[reducible] def n_Z75:Nat := 207
@[reducible] def n_Z2:Nat := 209
@[reducible] def n_Z0:Nat := 210
@[reducible] def n_Z77:Nat := 211
@[reducible] def n_Z117:Nat := 213
@[reducible] def n_Z23:Nat := 214
@[reducible] def n_Z103:Nat := 215
@[reducible] def n_Z107:Nat := 216
@[reducible] def n_Z42:Nat := 217
@[reducible] def n_Z12:Nat := 218
@[reducible] def n_Z43:Nat := 219
@[reducible] def n_Z87:Nat := 220
@[reducible] def n_Z27:Nat := 221
@[reducible] def n_Z13:Nat := 222
@[reducible] def n_Z37:Nat := 223
@[reducible] def n_Z91:Nat := 224
@[reducible] def n_Z86:Nat := 225
@[reducible] def n_Z3:Nat := 251
@[reducible] def n_Z1:Nat := 252
@[reducible] def n_Z48:Nat := 255
@[reducible] def n_Z50:Nat := 256
@[reducible] def n_Z4:Nat := 263
@[reducible] def n_Z49:Nat := 267
@[reducible] noncomputable def F_Z63:Func := Tryz.f10
@[reducible] noncomputable def F_Z67:Func := Tryz.f11
@[reducible] noncomputable def F_Z70:Func := Tryz.f13
@[reducible] noncomputable def F_Z66:Func := Tryz.f15
@[reducible] noncomputable def F_Z64:Func := Tryz.f16
@[reducible] noncomputable def F_Z71:Func := Tryz.f21
@[reducible] noncomputable def F_Z65:Func := Tryz.f23
@[reducible] noncomputable def F_Z97:Func := Tryz.f44
@[reducible] noncomputable def F_Z5:Func := Tryz.f45
@[reducible] noncomputable def F_Z69:Func := Tryz.f46
@[reducible] noncomputable def F_Z126:Func := Tryz.f47
@[reducible] noncomputable def F_Z127:Func := Tryz.f48
@[reducible] noncomputable def F_Z72:Func := Tryz.f49
@[reducible] noncomputable def F_Z33:Func := Tryz.f51
@[reducible] noncomputable def F_Z128:Func := Tryz.f55
@[reducible] noncomputable def F_Z16:Func := Tryz.f59
@[reducible] noncomputable def F_Z105:Func := Tryz.f60
@[reducible] noncomputable def F_Z133:Func := Tryz.f61
@[reducible] noncomputable def F_Z119:Func := Tryz.f62
@[reducible] noncomputable def F_Z123:Func := Tryz.f63
@[reducible] noncomputable def F_Z135:Func := Tryz.f64
@[reducible] noncomputable def F_Z19:Func := Tryz.f65
@[reducible] noncomputable def F_Z18:Func := Tryz.f66
@[reducible] noncomputable def F_Z68:Func := Tryz.f67
@[reducible] noncomputable def F_Z54:Func := Tryz.f73
@[reducible] noncomputable def F_Z101:Func := Tryz.f80
@[reducible] noncomputable def F_Z134:Func := Tryz.f81
@[reducible] noncomputable def F_Z47:Func := Tryz.f83
@[reducible] noncomputable def F_Z34:Func := Tryz.f84
@[reducible] noncomputable def F_Z106:Func := Tryz.f92
@[reducible] noncomputable def F_Z116:Func := Tryz.f93
@[reducible] noncomputable def F_Z115:Func := Tryz.f94
@[reducible] noncomputable def F_Z15:Func := Tryz.f95
@[reducible] noncomputable def F_Z35:Func := Tryz.f96
@[reducible] noncomputable def F_Z124:Func := Tryz.f97
@[reducible] noncomputable def F_Z98:Func := Tryz.f98
@[reducible] noncomputable def F_Z129:Func := Tryz.f99
@[reducible] noncomputable def F_Z109:Func := Tryz.f100
@[reducible] noncomputable def F_Z8:Func := Tryz.f101
@[reducible] noncomputable def F_Z10:Func := Tryz.f102
@[reducible] noncomputable def F_Z39:Func := Tryz.f103
@[reducible] noncomputable def F_Z53:Func := Tryz.f104
@[reducible] noncomputable def F_Z46:Func := Tryz.f105
@[reducible] noncomputable def F_Z17:Func := Tryz.f106
@[reducible] noncomputable def F_Z132:Func := Tryz.f109
@[reducible] noncomputable def F_Z112:Func := Tryz.f110
@[reducible] noncomputable def F_Z113:Func := Tryz.f111
@[reducible] noncomputable def F_Z121:Func := Tryz.f112
@[reducible] noncomputable def F_Z130:Func := Tryz.f113
@[reducible] noncomputable def F_Z44:Func := Tryz.f115
@[reducible] noncomputable def F_Z57:Func := Tryz.f118
@[reducible] noncomputable def F_Z56:Func := Tryz.f120
@[reducible] noncomputable def F_Z20:Func := Tryz.f121
@[reducible] noncomputable def F_Z100:Func := Tryz.f122
@[reducible] noncomputable def F_Z138:Func := Tryz.f123
@[reducible] noncomputable def F_Z140:Func := Tryz.f124
@[reducible] noncomputable def F_Z139:Func := Tryz.f125
@[reducible] noncomputable def F_Z61:Func := Tryz.f126
@[reducible] noncomputable def F_Z55:Func := Tryz.f127
@[reducible] noncomputable def F_Z95:Func := Tryz.f128
@[reducible] noncomputable def F_Z36:Func := Tryz.f129
@[reducible] noncomputable def F_Z14:Func := Tryz.f130
@[reducible] noncomputable def F_Z38:Func := Tryz.f131
@[reducible] noncomputable def F_Z137:Func := Tryz.f140
@[reducible] noncomputable def F_Z122:Func := Tryz.f141
@[reducible] noncomputable def F_Z40:Func := Tryz.f143
@[reducible] noncomputable def F_Z59:Func := Tryz.f144
@[reducible] noncomputable def F_Z96:Func := Tryz.f145
@[reducible] noncomputable def F_Z76:Func := Tryz.f146
@[reducible] noncomputable def F_Z24:Func := Tryz.f147
@[reducible] noncomputable def F_Z21:Func := Tryz.f149
@[reducible] noncomputable def F_Z114:Func := Tryz.f157
@[reducible] noncomputable def F_Z25:Func := Tryz.f158
@[reducible] noncomputable def F_Z7:Func := Tryz.f159
@[reducible] noncomputable def F_Z22:Func := Tryz.f160
@[reducible] noncomputable def F_Z125:Func := Tryz.f161
@[reducible] noncomputable def F_Z118:Func := Tryz.f162
@[reducible] noncomputable def F_Z120:Func := Tryz.f163
@[reducible] noncomputable def F_Z131:Func := Tryz.f164
@[reducible] noncomputable def F_Z111:Func := Tryz.f165
@[reducible] noncomputable def F_Z99:Func := Tryz.f166
@[reducible] noncomputable def F_Z110:Func := Tryz.f167
@[reducible] noncomputable def F_Z11:Func := Tryz.f168
@[reducible] noncomputable def F_Z79:Func := Tryz.f169
@[reducible] noncomputable def F_Z29:Func := Tryz.f170
@[reducible] noncomputable def F_Z9:Func := Tryz.f171
@[reducible] noncomputable def F_Z60:Func := Tryz.f172
@[reducible] noncomputable def F_Z52:Func := Tryz.f173
@[reducible] noncomputable def F_Z26:Func := Tryz.f174
@[reducible] noncomputable def F_Z85:Func := Tryz.f175
@[reducible] noncomputable def F_Z51:Func := Tryz.f176
@[reducible] noncomputable def F_Z28:Func := Tryz.f177
@[reducible] noncomputable def F_Z108:Func := Tryz.f178
@[reducible] noncomputable def F_Z82:Func := Tryz.f179
@[reducible] noncomputable def F_Z45:Func := Tryz.f180
@[reducible] noncomputable def F_Z30:Func := Tryz.f182
@[reducible] noncomputable def F_Z58:Func := Tryz.f183
@[reducible] noncomputable def F_Z6:Func := Tryz.f184
@[reducible] noncomputable def F_Z78:Func := Tryz.f185
@[reducible] noncomputable def F_Z136:Func := Tryz.f186
@[reducible] noncomputable def F_Z62:Func := Tryz.f187
@[reducible] noncomputable def F_Z73:Func := Tryz.f188
@[reducible] noncomputable def F_Z102:Func := Tryz.f202
@[reducible] noncomputable def F_Z104:Func := Tryz.f203
@[reducible] noncomputable def F_Z41:Func := Tryz.f204
@[reducible] noncomputable def F_Z75:Func := Tryz.f207
@[reducible] noncomputable def F_Z2:Func := Tryz.f209
@[reducible] noncomputable def F_Z0:Func := Tryz.f210
@[reducible] noncomputable def F_Z77:Func := Tryz.f211
@[reducible] noncomputable def F_Z117:Func := Tryz.f213
@[reducible] noncomputable def F_Z23:Func := Tryz.f214
@[reducible] noncomputable def F_Z103:Func := Tryz.f215
@[reducible] noncomputable def F_Z107:Func := Tryz.f216
@[reducible] noncomputable def F_Z42:Func := Tryz.f217
@[reducible] noncomputable def F_Z12:Func := Tryz.f218
@[reducible] noncomputable def F_Z43:Func := Tryz.f219
@[reducible] noncomputable def F_Z87:Func := Tryz.f220
@[reducible] noncomputable def F_Z27:Func := Tryz.f221
@[reducible] noncomputable def F_Z13:Func := Tryz.f222
@[reducible] noncomputable def F_Z37:Func := Tryz.f223
@[reducible] noncomputable def F_Z91:Func := Tryz.f224
@[reducible] noncomputable def F_Z86:Func := Tryz.f225
@[reducible] noncomputable def F_Z3:Func := Tryz.f251
@[reducible] noncomputable def F_Z1:Func := Tryz.f252
@[reducible] noncomputable def F_Z48:Func := Tryz.f255
@[reducible] noncomputable def F_Z50:Func := Tryz.f256
@[reducible] noncomputable def F_Z4:Func := Tryz.f263
@[reducible] noncomputable def F_Z49:Func := Tryz.f267
@[reducible] def o_Z63:Ty := (.cons .bool .nil)
noncomputable def sg_Z63:Sig := ⟨[(true,1),(true,1),(false,1),(false,1),(false,1)],[],o_Z63,[(false,1)],[],[]⟩
@[reducible] def o_Z67:Ty := (.cons yI .nil)
noncomputable def sg_Z67:Sig := ⟨[(true,1),(false,1)],[],o_Z67,[(false,1)],[],[]⟩
@[reducible] def o_Z70:Ty := (.cons yK .nil)
noncomputable def sg_Z70:Sig := ⟨[(true,1)],[],o_Z70,[(true,1)],[.deep],[]⟩
@[reducible] def o_Z66:Ty := (.cons .bool .nil)
noncomputable def sg_Z66:Sig := ⟨[(false,1),(false,1)],[],o_Z66,[(false,1)],[],[]⟩
@[reducible] def o_Z64:Ty := (.cons .bool .nil)
noncomputable def sg_Z64:Sig := ⟨[(true,1),(true,1)],[],o_Z64,[(false,1)],[],[]⟩
@[reducible] def o_Z71:Ty := (.cons yL .nil)
noncomputable def sg_Z71:Sig := ⟨[(false,1)],[],o_Z71,[(false,1)],[.deep],[]⟩
@[reducible] def o_Z65:Ty := (.cons .bool .nil)
noncomputable def sg_Z65:Sig := ⟨[(false,1),(false,1)],[],o_Z65,[(false,1)],[],[]⟩
@[reducible] def o_Z97:Ty := (.cons yI (.cons yI .nil))
noncomputable def sg_Z97:Sig := ⟨[(true,1),(true,1),(false,1),(false,1),(false,1)],[],o_Z97,[(false,1),(false,1)],[],[]⟩
@[reducible] def o_Z5:Ty := (.cons yI (.cons yI .nil))
noncomputable def sg_Z5:Sig := ⟨[(true,1),(true,1),(false,1),(false,1),(false,1)],[],o_Z5,[(false,1),(false,1)],[],[]⟩
@[reducible] def o_Z69:Ty := (.cons yI .nil)
noncomputable def sg_Z69:Sig := ⟨[(false,1),(false,1)],[],o_Z69,[(false,1)],[],[]⟩
@[reducible] def o_Z126:Ty := (.cons yI .nil)
noncomputable def sg_Z126:Sig := ⟨[(false,1),(false,1),(false,1)],[],o_Z126,[(false,1)],[],[(.ptr (.cons yK .nil))]⟩
@[reducible] def o_Z127:Ty := (.cons yK .nil)
noncomputable def sg_Z127:Sig := ⟨[(false,1),(false,1),(false,1)],[],o_Z127,[(false,1)],[.deep],[(.ptr (.cons yK .nil))]⟩
@[reducible] def o_Z72:Ty := (.cons yK .nil)
noncomputable def sg_Z72:Sig := ⟨[(false,1)],[],o_Z72,[(false,1)],[.deep],[]⟩
@[reducible] def o_Z33:Ty := (.cons yK .nil)
noncomputable def sg_Z33:Sig := ⟨[(true,1),(false,1),(false,1)],[],o_Z33,[(false,1)],[.own],[]⟩
@[reducible] def o_Z128:Ty := yM
noncomputable def sg_Z128:Sig := ⟨[(false,1),(false,1),(false,1)],[],o_Z128,[(true,4)],[.imm,.imm,.imm,.deep],[(.ptr (.cons yK .nil))]⟩
@[reducible] def o_Z16:Ty := (.cons yI (.cons yI (.cons yK .nil)))
noncomputable def sg_Z16:Sig := ⟨[(true,1),(false,1),(false,1)],[],o_Z16,[(true,3)],[.imm,.imm,.deep],[]⟩
@[reducible] def o_Z105:Ty := (.cons .bool .nil)
noncomputable def sg_Z105:Sig := ⟨[(false,1)],[],o_Z105,[(false,1)],[],[]⟩
@[reducible] def o_Z133:Ty := (.cons yI .nil)
noncomputable def sg_Z133:Sig := ⟨[(false,1),(false,1),(false,1)],[],o_Z133,[(false,1)],[],[(.ptr (.cons yK .nil)),(.ptr (.cons yK .nil))]⟩
@[reducible] def o_Z119:Ty := (.cons .bool .nil)
noncomputable def sg_Z119:Sig := ⟨[(false,1)],[],o_Z119,[(false,1)],[],[]⟩
@[reducible] def o_Z123:Ty := (.cons yL .nil)
noncomputable def sg_Z123:Sig := ⟨[(false,1),(false,1)],[],o_Z123,[(false,1)],[.deep],[(.ptr (.cons yK .nil))]⟩
@[reducible] def o_Z135:Ty := yM
noncomputable def sg_Z135:Sig := ⟨[(false,1),(false,1),(false,1),(false,1),(false,1)],[],o_Z135,[(true,4)],[.imm,.imm,.imm,.deep],[(.ptr (.cons yK .nil)),(.ptr (.cons yK .nil))]⟩
@[reducible] def o_Z19:Ty := (.cons yI .nil)
noncomputable def sg_Z19:Sig := ⟨[(true,1),(true,1),(false,1),(false,1),(false,1),(false,1)],[],o_Z19,[(false,1)],[],[]⟩
@[reducible] def o_Z18:Ty := yM
noncomputable def sg_Z18:Sig := ⟨[(true,1),(true,1),(false,1),(false,1),(false,1)],[],o_Z18,[(true,4)],[.imm,.imm,.imm,.deep],[]⟩
@[reducible] def o_Z68:Ty := (.cons yI .nil)
noncomputable def sg_Z68:Sig := ⟨[(false,1),(false,1)],[],o_Z68,[(false,1)],[],[]⟩
@[reducible] def o_Z54:Ty := (.cons yI .nil)
noncomputable def sg_Z54:Sig := ⟨[(false,1)],[],o_Z54,[(false,1)],[],[]⟩
@[reducible] def o_Z101:Ty := (.cons yL .nil)
noncomputable def sg_Z101:Sig := ⟨[(false,1)],[],o_Z101,[(false,1)],[.deep],[]⟩
@[reducible] def o_Z134:Ty := (.cons yI .nil)
noncomputable def sg_Z134:Sig := ⟨[(false,1),(false,1),(false,1),(false,1)],[],o_Z134,[(false,1)],[],[(.ptr (.cons yK .nil)),(.ptr (.cons yK .nil))]⟩
@[reducible] def o_Z47:Ty := (.cons yI .nil)
noncomputable def sg_Z47:Sig := ⟨[(true,1),(true,1),(false,1)],[],o_Z47,[(false,1)],[],[]⟩
@[reducible] def o_Z34:Ty := (.cons yL .nil)
noncomputable def sg_Z34:Sig := ⟨[(true,1),(false,1),(false,1)],[],o_Z34,[(false,1)],[.deep],[]⟩
@[reducible] def o_Z106:Ty := (.cons yL .nil)
noncomputable def sg_Z106:Sig := ⟨[(false,1),(false,1)],[],o_Z106,[(false,1)],[.deep],[(.ptr yM)]⟩
@[reducible] def o_Z116:Ty := (.cons yK .nil)
noncomputable def sg_Z116:Sig := ⟨[(false,1),(false,1),(false,1),(false,1)],[],o_Z116,[(false,1)],[.deep],[]⟩
@[reducible] def o_Z115:Ty := (.cons yK .nil)
noncomputable def sg_Z115:Sig := ⟨[(false,1)],[],o_Z115,[(false,1)],[.deep],[(.ptr yM)]⟩
@[reducible] def o_Z15:Ty := (.cons yL .nil)
noncomputable def sg_Z15:Sig := ⟨[(true,4),(false,1)],[],o_Z15,[(false,1)],[.deep],[]⟩
@[reducible] def o_Z35:Ty := (.cons yK .nil)
noncomputable def sg_Z35:Sig := ⟨[(true,3),(false,1)],[],o_Z35,[(false,1)],[.own],[]⟩
@[reducible] def o_Z124:Ty := (.cons .bool .nil)
noncomputable def sg_Z124:Sig := ⟨[(false,1)],[],o_Z124,[(false,1)],[],[(.ptr (.cons yK .nil))]⟩
@[reducible] def o_Z98:Ty := (.cons .bool .nil)
noncomputable def sg_Z98:Sig := ⟨[(false,1)],[],o_Z98,[(false,1)],[],[]⟩
@[reducible] def o_Z129:Ty := (.cons yK .nil)
noncomputable def sg_Z129:Sig := ⟨[(true,4),(false,1)],[],o_Z129,[(false,1)],[.deep],[]⟩
@[reducible] def o_Z109:Ty := (.cons yK .nil)
noncomputable def sg_Z109:Sig := ⟨[(false,1)],[],o_Z109,[(false,1)],[.deep],[(.ptr yM)]⟩
@[reducible] def o_Z8:Ty := (.cons .bool .nil)
noncomputable def sg_Z8:Sig := ⟨[(true,1)],[],o_Z8,[(false,1)],[],[]⟩
@[reducible] def o_Z10:Ty := (.cons .bool .nil)
noncomputable def sg_Z10:Sig := ⟨[(false,1)],[],o_Z10,[(false,1)],[],[]⟩
@[reducible] def o_Z39:Ty := (.cons .bool .nil)
noncomputable def sg_Z39:Sig := ⟨[(false,1)],[],o_Z39,[(false,1)],[],[]⟩
@[reducible] def o_Z53:Ty := (.cons yL .nil)
noncomputable def sg_Z53:Sig := ⟨[(true,1),(false,1)],[],o_Z53,[(false,1)],[.deep],[]⟩
@[reducible] def o_Z46:Ty := (.cons yK .nil)
noncomputable def sg_Z46:Sig := ⟨[(true,4)],[],o_Z46,[(false,1)],[.deep],[]⟩
@[reducible] def o_Z17:Ty := yM
noncomputable def sg_Z17:Sig := ⟨[(true,1),(false,1),(false,1)],[],o_Z17,[(true,4)],[.imm,.imm,.imm,.deep],[]⟩
@[reducible] def o_Z132:Ty := yM
noncomputable def sg_Z132:Sig := ⟨[(false,1),(false,1)],[],o_Z132,[(true,4)],[.imm,.imm,.imm,.deep],[(.ptr yM)]⟩
@[reducible] def o_Z112:Ty := (.cons yL (.cons .bool .nil))
noncomputable def sg_Z112:Sig := ⟨[(false,1),(false,1)],[],o_Z112,[(false,1),(false,1)],[.deep,.imm],[(.ptr yM)]⟩
@[reducible] def o_Z113:Ty := yM
noncomputable def sg_Z113:Sig := ⟨[(false,1),(false,1),(false,1)],[],o_Z113,[(true,4)],[.imm,.imm,.imm,.deep],[]⟩
@[reducible] def o_Z121:Ty := (.cons yL .nil)
noncomputable def sg_Z121:Sig := ⟨[(false,1),(false,1)],[],o_Z121,[(false,1)],[.deep],[(.ptr (.cons yK .nil))]⟩
@[reducible] def o_Z130:Ty := (.cons yI .nil)
noncomputable def sg_Z130:Sig := ⟨[(false,1),(false,1)],[],o_Z130,[(false,1)],[],[]⟩
@[reducible] def o_Z44:Ty := (.cons .bool .nil)
noncomputable def sg_Z44:Sig := ⟨[(false,1)],[],o_Z44,[(false,1)],[],[]⟩
@[reducible] def o_Z57:Ty := yM
noncomputable def sg_Z57:Sig := ⟨[(true,4)],[],o_Z57,[(true,4)],[.imm,.imm,.imm,.deep],[]⟩
@[reducible] def o_Z56:Ty := (.cons yI (.cons yI (.cons yK .nil)))
noncomputable def sg_Z56:Sig := ⟨[(false,1),(false,1),(false,1)],[],o_Z56,[(true,3)],[.imm,.imm,.deep],[]⟩
@[reducible] def o_Z20:Ty := (.cons yK .nil)
noncomputable def sg_Z20:Sig := ⟨[(true,4)],[],o_Z20,[(false,1)],[.deep],[]⟩
@[reducible] def o_Z100:Ty := (.cons .bool .nil)
noncomputable def sg_Z100:Sig := ⟨[(false,1),(false,1),(false,1)],[],o_Z100,[(false,1)],[],[]⟩
@[reducible] def o_Z138:Ty := (.cons .bool .nil)
noncomputable def sg_Z138:Sig := ⟨[(false,1),(false,1),(false,1)],[],o_Z138,[(false,1)],[],[(.ptr (.cons yK .nil)),(.ptr (.cons yK .nil))]⟩
@[reducible] def o_Z140:Ty := (.cons yL .nil)
noncomputable def sg_Z140:Sig := ⟨[(false,1)],[],o_Z140,[(false,1)],[.deep],[(.ptr (.cons yK .nil))]⟩
@[reducible] def o_Z139:Ty := (.cons yI .nil)
noncomputable def sg_Z139:Sig := ⟨[(false,1),(false,1),(false,1)],[],o_Z139,[(false,1)],[],[]⟩
@[reducible] def o_Z61:Ty := yM
noncomputable def sg_Z61:Sig := ⟨[(false,1),(false,1),(false,1)],[],o_Z61,[(true,4)],[.imm,.imm,.imm,.deep],[]⟩
@[reducible] def o_Z55:Ty := (.cons yI .nil)
noncomputable def sg_Z55:Sig := ⟨[(false,1)],[],o_Z55,[(false,1)],[],[]⟩
@[reducible] def o_Z95:Ty := (.cons yI .nil)
noncomputable def sg_Z95:Sig := ⟨[(false,1),(false,1)],[],o_Z95,[(false,1)],[],[]⟩
@[reducible] def o_Z36:Ty := (.cons yI .nil)
noncomputable def sg_Z36:Sig := ⟨[(true,1),(false,1)],[],o_Z36,[(false,1)],[],[]⟩
@[reducible] def o_Z14:Ty := (.cons yI .nil)
noncomputable def sg_Z14:Sig := ⟨[(false,1),(false,1)],[],o_Z14,[(false,1)],[],[]⟩
@[reducible] def o_Z38:Ty := (.cons yI .nil)
noncomputable def sg_Z38:Sig := ⟨[(true,1),(false,1),(false,1)],[],o_Z38,[(false,1)],[],[]⟩
@[reducible] def o_Z137:Ty := (.cons yL (.cons .bool .nil))
noncomputable def sg_Z137:Sig := ⟨[(false,1),(false,1),(false,1)],[],o_Z137,[(false,1),(false,1)],[],[]⟩
@[reducible] def o_Z122:Ty := (.cons yI .nil)
noncomputable def sg_Z122:Sig := ⟨[(false,1),(false,1)],[],o_Z122,[(false,1)],[],[(.ptr (.cons yK .nil))]⟩
@[reducible] def o_Z40:Ty := (.cons .bool .nil)
noncomputable def sg_Z40:Sig := ⟨[(true,1),(true,1),(false,1)],[],o_Z40,[(false,1)],[],[]⟩
@[reducible] def o_Z59:Ty := (.cons yL .nil)
noncomputable def sg_Z59:Sig := ⟨[(true,1)],[],o_Z59,[(false,1)],[.deep],[]⟩
@[reducible] def o_Z96:Ty := (.cons yL .nil)
noncomputable def sg_Z96:Sig := ⟨[(false,1)],[.io true],o_Z96,[],[],[]⟩
@[reducible] def o_Z76:Ty := (.cons yL .nil)
noncomputable def sg_Z76:Sig := ⟨[(false,1)],[.take true],o_Z76,[(false,1)],[.deep],[]⟩
@[reducible] def o_Z24:Ty := (.cons yK .nil)
noncomputable def sg_Z24:Sig := ⟨[(false,1)],[],o_Z24,[(false,1)],[.deep],[]⟩
@[reducible] def o_Z21:Ty := (.cons yI .nil)
noncomputable def sg_Z21:Sig := ⟨[(false,1),(false,1)],[],o_Z21,[(false,1)],[],[]⟩
@[reducible] def o_Z114:Ty := (.cons yK .nil)
noncomputable def sg_Z114:Sig := ⟨[(false,1),(false,1),(false,1)],[],o_Z114,[(false,1)],[.deep],[]⟩
@[reducible] def o_Z25:Ty := (.cons yI .nil)
noncomputable def sg_Z25:Sig := ⟨[(false,1),(false,1),(false,1)],[],o_Z25,[(false,1)],[],[]⟩
@[reducible] def o_Z7:Ty := (.cons yL .nil)
noncomputable def sg_Z7:Sig := ⟨[(true,4),(false,1)],[],o_Z7,[(false,1)],[],[]⟩
@[reducible] def o_Z22:Ty := (.cons .bool .nil)
noncomputable def sg_Z22:Sig := ⟨[(true,3),(false,1)],[],o_Z22,[(false,1)],[],[]⟩
@[reducible] def o_Z125:Ty := (.cons .bool .nil)
noncomputable def sg_Z125:Sig := ⟨[(false,1)],[],o_Z125,[(false,1)],[],[]⟩
@[reducible] def o_Z118:Ty := (.cons .bool .nil)
noncomputable def sg_Z118:Sig := ⟨[(false,1),(false,1)],[],o_Z118,[(false,1)],[],[]⟩
@[reducible] def o_Z120:Ty := (.cons yL .nil)
noncomputable def sg_Z120:Sig := ⟨[(false,1),(false,1)],[],o_Z120,[(false,1)],[.deep],[]⟩
@[reducible] def o_Z131:Ty := (.cons .bool .nil)
noncomputable def sg_Z131:Sig := ⟨[(false,1),(false,1)],[],o_Z131,[(false,1)],[],[(.ptr yM)]⟩
@[reducible] def o_Z111:Ty := (.cons yI (.cons yI (.cons yI (.cons yL (.cons yL (.cons yI .nil))))))
noncomputable def sg_Z111:Sig := ⟨[(false,1)],[],o_Z111,[(true,4),(false,1),(false,1)],[.imm,.imm,.imm,.deep,.deep,.imm],[(.ptr yM)]⟩
@[reducible] def o_Z99:Ty := (.cons .bool .nil)
noncomputable def sg_Z99:Sig := ⟨[(false,1),(false,1)],[],o_Z99,[(false,1)],[],[]⟩
@[reducible] def o_Z110:Ty := (.cons yI .nil)
noncomputable def sg_Z110:Sig := ⟨[(false,1),(false,1)],[],o_Z110,[(false,1)],[],[]⟩
@[reducible] def o_Z11:Ty := (.cons .bool .nil)
noncomputable def sg_Z11:Sig := ⟨[(false,1)],[],o_Z11,[(false,1)],[],[]⟩
@[reducible] def o_Z79:Ty := (.cons .bool .nil)
noncomputable def sg_Z79:Sig := ⟨[(false,1),(false,1)],[],o_Z79,[(false,1)],[],[]⟩
@[reducible] def o_Z29:Ty := (.cons yK .nil)
noncomputable def sg_Z29:Sig := ⟨[(false,1)],[],o_Z29,[(false,1)],[.deep],[]⟩
@[reducible] def o_Z9:Ty := (.cons .bool .nil)
noncomputable def sg_Z9:Sig := ⟨[(false,1),(false,1),(false,1)],[],o_Z9,[(false,1)],[],[.nil,(.ptr (.cons yK .nil)),(.ptr (.cons yI .nil))]⟩
@[reducible] def o_Z60:Ty := (.cons .bool .nil)
noncomputable def sg_Z60:Sig := ⟨[(false,1),(false,1),(false,1)],[],o_Z60,[(false,1)],[],[]⟩
@[reducible] def o_Z52:Ty := (.cons yK .nil)
noncomputable def sg_Z52:Sig := ⟨[(true,4)],[],o_Z52,[(false,1)],[.deep],[]⟩
@[reducible] def o_Z26:Ty := (.cons yL (.cons yI (.cons yK .nil)))
noncomputable def sg_Z26:Sig := ⟨[(false,1),(false,1),(false,1)],[.io false,.imm,.imm],o_Z26,[(false,1),(false,1)],[.deep,.imm],[]⟩
@[reducible] def o_Z85:Ty := (.cons .bool .nil)
noncomputable def sg_Z85:Sig := ⟨[(false,1),(false,1)],[],o_Z85,[(false,1)],[],[]⟩
@[reducible] def o_Z51:Ty := (.cons yI .nil)
noncomputable def sg_Z51:Sig := ⟨[(false,1),(false,1)],[],o_Z51,[(false,1)],[],[]⟩
@[reducible] def o_Z28:Ty := (.cons yL .nil)
noncomputable def sg_Z28:Sig := ⟨[(true,1),(false,1)],[],o_Z28,[(false,1)],[.deep],[]⟩
@[reducible] def o_Z108:Ty := yM
noncomputable def sg_Z108:Sig := ⟨[(false,1),(false,1)],[],o_Z108,[(true,4)],[.imm,.imm,.imm,.deep],[(.ptr yM),(.ptr yM)]⟩
@[reducible] def o_Z82:Ty := (.cons .bool .nil)
noncomputable def sg_Z82:Sig := ⟨[(false,1),(false,1)],[],o_Z82,[(false,1)],[],[]⟩
@[reducible] def o_Z45:Ty := (.cons .bool .nil)
noncomputable def sg_Z45:Sig := ⟨[(false,1)],[],o_Z45,[(false,1)],[],[]⟩
@[reducible] def o_Z30:Ty := yM
noncomputable def sg_Z30:Sig := ⟨[(false,1),(false,1),(false,1),(false,1)],[],o_Z30,[(true,4)],[.imm,.imm,.imm,.deep],[]⟩
@[reducible] def o_Z58:Ty := (.cons yI .nil)
noncomputable def sg_Z58:Sig := ⟨[(false,1),(false,1),(false,1)],[],o_Z58,[(false,1)],[],[.nil,.nil,(.ptr yM)]⟩
@[reducible] def o_Z6:Ty := (.cons yI .nil)
noncomputable def sg_Z6:Sig := ⟨[(true,4),(false,1),(false,1)],[],o_Z6,[(false,1)],[],[]⟩
@[reducible] def o_Z78:Ty := (.cons yL .nil)
noncomputable def sg_Z78:Sig := ⟨[(false,1)],[],o_Z78,[(false,1)],[.deep],[]⟩
@[reducible] def o_Z136:Ty := (.cons .bool .nil)
noncomputable def sg_Z136:Sig := ⟨[(false,1),(false,1),(false,1),(false,1)],[],o_Z136,[(false,1)],[],[(.ptr (.cons yK .nil)),(.ptr (.cons yK .nil))]⟩
@[reducible] def o_Z62:Ty := (.cons yI .nil)
noncomputable def sg_Z62:Sig := ⟨[(false,1),(false,1)],[],o_Z62,[(false,1)],[],[]⟩
@[reducible] def o_Z73:Ty := (.cons yI (.cons .bool .nil))
noncomputable def sg_Z73:Sig := ⟨[(false,1),(false,1),(false,1)],[],o_Z73,[(false,1),(false,1)],[],[]⟩
@[reducible] def o_Z102:Ty := (.cons yL .nil)
noncomputable def sg_Z102:Sig := ⟨[(false,1),(false,1)],[],o_Z102,[(false,1)],[.deep],[]⟩
@[reducible] def o_Z104:Ty := (.cons .bool .nil)
noncomputable def sg_Z104:Sig := ⟨[(false,1),(false,1)],[],o_Z104,[(false,1)],[],[]⟩
@[reducible] def o_Z41:Ty := (.cons .bool .nil)
noncomputable def sg_Z41:Sig := ⟨[(false,1),(false,1),(false,1),(false,1)],[],o_Z41,[(false,1)],[],[.nil,(.ptr (.cons yK .nil)),(.ptr (.cons yK .nil)),(.ptr (.cons yL .nil))]⟩
@[reducible] def o_Z75:Ty := (.cons yL .nil)
noncomputable def sg_Z75:Sig := ⟨[(false,1)],[],o_Z75,[(false,1)],[.deep],[]⟩
@[reducible] def o_Z2:Ty := (.cons yI .nil)
noncomputable def sg_Z2:Sig := ⟨[(false,1)],[],o_Z2,[(false,1)],[],[]⟩
@[reducible] def o_Z0:Ty := (.cons yI .nil)
noncomputable def sg_Z0:Sig := ⟨[(false,1),(false,1)],[],o_Z0,[(false,1)],[],[]⟩
@[reducible] def o_Z77:Ty := (.cons yI .nil)
noncomputable def sg_Z77:Sig := ⟨[(false,1),(false,1)],[],o_Z77,[(false,1)],[],[]⟩
@[reducible] def o_Z117:Ty := yM
noncomputable def sg_Z117:Sig := ⟨[(false,1),(false,1),(false,1)],[],o_Z117,[(true,4)],[.imm,.imm,.imm,.deep],[]⟩
@[reducible] def o_Z23:Ty := (.cons yL (.cons .bool .nil))
noncomputable def sg_Z23:Sig := ⟨[(true,3),(false,1)],[],o_Z23,[(false,1),(false,1)],[.deep,.imm],[]⟩
@[reducible] def o_Z103:Ty := (.cons .bool .nil)
noncomputable def sg_Z103:Sig := ⟨[(false,1),(false,1),(false,1)],[],o_Z103,[(false,1)],[],[]⟩
@[reducible] def o_Z107:Ty := (.cons yI .nil)
noncomputable def sg_Z107:Sig := ⟨[(false,1),(false,1)],[],o_Z107,[(false,1)],[],[]⟩
@[reducible] def o_Z42:Ty := (.cons .bool .nil)
noncomputable def sg_Z42:Sig := ⟨[(false,1)],[],o_Z42,[(false,1)],[],[]⟩
@[reducible] def o_Z12:Ty := (.cons .bool .nil)
noncomputable def sg_Z12:Sig := ⟨[(false,1)],[],o_Z12,[(false,1)],[],[]⟩
@[reducible] def o_Z43:Ty := (.cons .bool .nil)
noncomputable def sg_Z43:Sig := ⟨[(false,1)],[],o_Z43,[(false,1)],[],[]⟩
@[reducible] def o_Z87:Ty := (.cons yI .nil)
noncomputable def sg_Z87:Sig := ⟨[(false,1),(false,1)],[],o_Z87,[(false,1)],[],[]⟩
@[reducible] def o_Z27:Ty := (.cons .bool .nil)
noncomputable def sg_Z27:Sig := ⟨[(false,1),(false,1)],[],o_Z27,[(false,1)],[],[.nil,(.ptr (.cons yI .nil))]⟩
@[reducible] def o_Z13:Ty := (.cons yL .nil)
noncomputable def sg_Z13:Sig := ⟨[(false,1),(false,1),(false,1),(false,1)],[],o_Z13,[(false,1)],[.deep],[]⟩
@[reducible] def o_Z37:Ty := (.cons yI .nil)
noncomputable def sg_Z37:Sig := ⟨[(false,1),(false,1)],[],o_Z37,[(false,1)],[],[]⟩
@[reducible] def o_Z91:Ty := (.cons yI .nil)
noncomputable def sg_Z91:Sig := ⟨[(false,1),(false,1)],[],o_Z91,[(false,1)],[],[]⟩
@[reducible] def o_Z86:Ty := (.cons yL .nil)
noncomputable def sg_Z86:Sig := ⟨[(false,1),(false,1)],[.take true,.imm],o_Z86,[(false,1)],[.deep],[]⟩
@[reducible] def o_Z3:Ty := (.cons .bool .nil)
noncomputable def sg_Z3:Sig := ⟨[(false,1)],[],o_Z3,[(false,1)],[],[]⟩
@[reducible] def o_Z1:Ty := (.cons yI .nil)
noncomputable def sg_Z1:Sig := ⟨[(false,1),(false,1)],[],o_Z1,[(false,1)],[],[]⟩
@[reducible] def o_Z48:Ty := (.cons yL .nil)
noncomputable def sg_Z48:Sig := ⟨[(true,3)],[],o_Z48,[(false,1)],[.deep],[]⟩
@[reducible] def o_Z50:Ty := (.cons yI .nil)
noncomputable def sg_Z50:Sig := ⟨[(false,1),(false,1),(false,1)],[],o_Z50,[(false,1)],[],[]⟩
@[reducible] def o_Z4:Ty := (.cons .bool .nil)
noncomputable def sg_Z4:Sig := ⟨[(false,1)],[],o_Z4,[(false,1)],[],[]⟩
@[reducible] def o_Z49:Ty := (.cons .bool .nil)
noncomputable def sg_Z49:Sig := ⟨[(false,1)],[],o_Z49,[(false,1)],[],[]⟩
noncomputable def pol_Z63:Pol := ⟨87,[],[],[],[(1000066,⟨[2,5,6,14,15,16,66],[5,6,14,15],[],[],[],[],[]⟩)],[]⟩
noncomputable def pol_Z67:Pol := ⟨14,[],[],[],[],[]⟩
noncomputable def pol_Z70:Pol := ⟨11,[(6,[some 10])],[],[],[],[]⟩
noncomputable def pol_Z66:Pol := ⟨29,[],[(4,⟨[0,1,5],[],[],[],[],[],[]⟩)],[],[],[]⟩
noncomputable def pol_Z64:Pol := ⟨13,[],[],[],[],[]⟩
noncomputable def pol_Z71:Pol := ⟨23,[],[(3,⟨[0,3,4],[7],[],[],[],[],[]⟩)],[],[],[]⟩
noncomputable def pol_Z65:Pol := ⟨28,[],[(4,⟨[0,1,5],[],[],[],[],[],[]⟩)],[],[],[]⟩
noncomputable def pol_Z97:Pol := ⟨75,[(55,[some 74])],[(14,⟨[3,4,6,13,14,15,16],[6,13,43],[],[],[],[],[]⟩)],[],[(6,⟨[2,3,4,5,6,12],[5,6],[],[],[],[],[]⟩),(8,⟨[2,3,4,5,6,12],[5,6],[],[],[],[],[]⟩)],[]⟩
noncomputable def pol_Z5:Pol := ⟨61,[(44,[some 60])],[(7,⟨[3,4,6,13,14,35,36,37],[6,13,46],[(14,46,yL,true)],[],[],[],[]⟩)],[],[],[]⟩
noncomputable def pol_Z69:Pol := ⟨29,[],[(5,⟨[0,1,5],[],[],[],[],[],[]⟩)],[],[],[]⟩
noncomputable def pol_Z126:Pol := ⟨42,[],[],[],[(1000014,⟨[0,1,14],[],[],[],[],[],[]⟩),(1000038,⟨[38],[],[],[],[],[],[]⟩)],[]⟩
noncomputable def pol_Z127:Pol := ⟨23,[(18,[some 22])],[],[],[],[]⟩
noncomputable def pol_Z72:Pol := ⟨25,[(20,[some 24])],[(3,⟨[0,3,4],[7],[],[],[],[],[]⟩)],[],[],[]⟩
noncomputable def pol_Z33:Pol := ⟨21,[(16,[some 20])],[],[],[],[]⟩
noncomputable def pol_Z128:Pol := ⟨72,[(25,[none,none,none,some 71])],[(5,⟨[0,1,2,6,7,8,9,10],[6,9,71],[],[],[],[],[]⟩),(9,⟨[0,1,2,6,7,8,9,10,11,12],[6,9,71],[],[],[],[],[]⟩)],[],[(1000033,⟨[0,1,2,6,7,8,9,10,33],[6,9,71],[],[],[],[],[]⟩)],[]⟩
noncomputable def pol_Z16:Pol := ⟨23,[(18,[none,none,some 22])],[],[],[],[]⟩
noncomputable def pol_Z105:Pol := ⟨19,[],[(4,⟨[0,3],[],[],[],[],[],[]⟩)],[],[],[]⟩
noncomputable def pol_Z133:Pol := ⟨23,[],[],[],[(1000014,⟨[0,1,2,14],[],[],[],[],[],[]⟩)],[]⟩
noncomputable def pol_Z119:Pol := ⟨6,[],[],[],[],[]⟩
noncomputable def pol_Z123:Pol := ⟨35,[],[(3,⟨[0,1,5,6],[7],[],[],[],[],[]⟩)],[],[],[]⟩
noncomputable def pol_Z135:Pol := ⟨127,[(36,[none,none,none,some 126])],[(6,⟨[0,1,2,4,10,11,12,13,14,15],[10,14,126],[],[],[],[],[]⟩),(12,⟨[0,1,2,4,10,11,12,13,14,15,16,17,18,19],[10,14,53,126],[],[],[],[],[]⟩),(16,⟨[0,1,2,4,10,11,12,13,14,15,16,17,18,19,20,21],[10,14,53,126],[],[],[],[],[]⟩)],[],[],[]⟩
noncomputable def pol_Z19:Pol := ⟨56,[],[(9,⟨[3,5,6,7,14],[6,7],[],[],[],[],[]⟩)],[],[(1000049,⟨[3,5,6,7,14,49],[6,7],[],[],[],[],[]⟩)],[]⟩
noncomputable def pol_Z18:Pol := ⟨80,[(30,[none,none,none,some 79])],[(4,⟨[2,4,5,6,10,11,12,13,31,32,33],[5,6,10,13,79],[],[],[],[],[]⟩)],[],[],[]⟩
noncomputable def pol_Z68:Pol := ⟨14,[],[],[],[],[]⟩
noncomputable def pol_Z54:Pol := ⟨6,[],[],[],[],[]⟩
noncomputable def pol_Z101:Pol := ⟨7,[],[],[],[],[]⟩
noncomputable def pol_Z134:Pol := ⟨32,[],[],[],[],[]⟩
noncomputable def pol_Z47:Pol := ⟨25,[],[],[],[(1000007,⟨[2,3,4,7],[3,4],[],[],[],[],[]⟩)],[]⟩
noncomputable def pol_Z34:Pol := ⟨37,[(32,[some 36])],[(4,⟨[1,7,8,13,14,15],[27],[(8,27,yI,true)],[],[],[],[]⟩)],[],[],[]⟩
noncomputable def pol_Z106:Pol := ⟨59,[],[(3,⟨[0,1,5,6],[9],[],[],[],[],[]⟩),(7,⟨[0,1,5,6,7,8],[9],[],[],[],[],[]⟩)],[],[],[]⟩
noncomputable def pol_Z116:Pol := ⟨62,[(53,[some 61])],[(5,⟨[0,1,3,9,10,11,12],[22],[],[],[],[],[(1000009,0)]⟩)],[],[(8,⟨[0,1,3,9,10,11,12,13],[22,29],[],[],[],[],[]⟩)],[]⟩
noncomputable def pol_Z115:Pol := ⟨48,[],[(3,⟨[0,3,4],[7],[],[],[],[],[]⟩),(7,⟨[0,3,4,5,6],[7,16],[],[],[],[],[]⟩)],[],[],[]⟩
noncomputable def pol_Z15:Pol := ⟨29,[],[(3,⟨[1,2,5,8,9],[2,21],[(5,21,yI,true)],[],[],[],[]⟩)],[],[],[]⟩
noncomputable def pol_Z35:Pol := ⟨40,[(28,[some 39])],[(3,⟨[2,5,8,9,10],[2,21],[(5,21,yL,true)],[],[],[21],[]⟩)],[],[],[]⟩
noncomputable def pol_Z124:Pol := ⟨66,[],[(4,⟨[0,3],[],[],[],[],[],[]⟩),(10,⟨[0,3,4,5],[],[],[],[],[],[]⟩)],[],[(1000047,⟨[0,3,4,47],[],[],[],[],[],[]⟩),(1000056,⟨[0,3,4,5,56],[],[],[],[],[],[]⟩)],[]⟩
noncomputable def pol_Z98:Pol := ⟨6,[],[],[],[],[]⟩
noncomputable def pol_Z129:Pol := ⟨40,[(25,[some 39])],[(3,⟨[1,2,5,6],[2,7],[],[],[],[],[]⟩)],[],[],[]⟩
noncomputable def pol_Z109:Pol := ⟨72,[],[(4,⟨[0,3,4,6,7],[3,16],[],[],[],[],[]⟩),(10,⟨[0,3,4,6,7,8,9],[3,16,32],[],[],[],[],[]⟩)],[],[],[]⟩
noncomputable def pol_Z8:Pol := ⟨41,[],[(2,⟨[1,6,7,8],[1],[],[],[1],[],[]⟩)],[],[(1000030,⟨[1,3,4,6,7,8,30],[1,3],[],[],[],[],[]⟩)],[]⟩
noncomputable def pol_Z10:Pol := ⟨19,[],[(4,⟨[0,3],[],[],[],[],[],[]⟩)],[],[],[]⟩
noncomputable def pol_Z39:Pol := ⟨6,[],[],[],[],[]⟩
noncomputable def pol_Z53:Pol := ⟨29,[],[(3,⟨[1,5,9,10,11],[24],[(5,24,yI,true)],[],[],[],[]⟩)],[],[],[]⟩
noncomputable def pol_Z46:Pol := ⟨69,[(12,[some 68])],[(5,⟨[1,3,4,6,23,24],[1,61,68],[(6,61,yL,true)],[],[],[],[]⟩),(11,⟨[1,3,4,6,7,8,23,24,36,37,38],[1,32,61,68],[],[],[],[],[]⟩)],[],[],[]⟩
noncomputable def pol_Z17:Pol := ⟨66,[(27,[none,none,none,some 65])],[(4,⟨[2,3,6,7,8,9,28,29,30],[3,6,9,65],[],[],[],[],[]⟩),(7,⟨[2,3,6,7,8,9,10,28,29,30,37,38,39],[3,6,9,65],[],[],[],[],[]⟩)],[],[],[]⟩
noncomputable def pol_Z132:Pol := ⟨21,[(17,[none,none,none,some 20])],[],[],[],[]⟩
noncomputable def pol_Z112:Pol := ⟨72,[],[(6,⟨[0,7,8,9,11,12],[7,8,34],[],[],[],[],[]⟩)],[],[],[]⟩
noncomputable def pol_Z113:Pol := ⟨18,[],[],[],[],[]⟩
noncomputable def pol_Z121:Pol := ⟨38,[],[(4,⟨[0,5,6,7],[15],[],[],[],[],[]⟩)],[],[(1000024,⟨[0,5,6,7,24],[15],[],[],[],[],[]⟩)],[]⟩
noncomputable def pol_Z130:Pol := ⟨14,[],[],[],[],[]⟩
noncomputable def pol_Z44:Pol := ⟨7,[],[],[],[],[]⟩
noncomputable def pol_Z57:Pol := ⟨16,[(10,[none,none,none,some 15])],[],[],[],[]⟩
noncomputable def pol_Z56:Pol := ⟨32,[(11,[some 30]),(25,[some 31])],[],[],[],[]⟩
noncomputable def pol_Z20:Pol := ⟨11,[(5,[some 10])],[],[],[],[]⟩
noncomputable def pol_Z100:Pol := ⟨18,[],[],[],[],[]⟩
noncomputable def pol_Z138:Pol := ⟨38,[],[(3,⟨[0,1,2,7,8],[],[],[],[],[],[]⟩)],[],[],[]⟩
noncomputable def pol_Z140:Pol := ⟨38,[],[(3,⟨[0,3,4],[5],[],[],[],[],[]⟩)],[],[],[]⟩
noncomputable def pol_Z139:Pol := ⟨27,[],[(2,⟨[0,1,2,7],[],[],[],[],[],[]⟩)],[],[],[]⟩
noncomputable def pol_Z61:Pol := ⟨15,[(10,[none,none,none,some 14])],[],[],[],[]⟩
noncomputable def pol_Z55:Pol := ⟨6,[],[],[],[],[]⟩
noncomputable def pol_Z95:Pol := ⟨21,[],[(2,⟨[0,1,7,8],[],[],[],[],[],[]⟩)],[],[],[]⟩
noncomputable def pol_Z36:Pol := ⟨19,[],[],[],[],[]⟩
noncomputable def pol_Z14:Pol := ⟨12,[],[],[],[],[]⟩
noncomputable def pol_Z38:Pol := ⟨50,[],[(3,⟨[1,2,3,7,12,13,14],[3],[],[],[],[],[]⟩),(6,⟨[1,2,3,7,9,12,13,14,21,22,23],[3],[],[],[],[],[]⟩)],[],[(1000041,⟨[1,2,3,7,9,12,13,14,21,22,23,41],[3],[],[],[],[],[]⟩)],[]⟩
noncomputable def pol_Z137:Pol := ⟨34,[],[(3,⟨[0,1,2,8,9],[],[],[],[],[],[(1000008,0)]⟩)],[],[],[]⟩
noncomputable def pol_Z122:Pol := ⟨27,[],[(2,⟨[0,1,5],[],[],[],[],[],[]⟩)],[],[],[]⟩
noncomputable def pol_Z40:Pol := ⟨21,[],[],[],[],[]⟩
noncomputable def pol_Z59:Pol := ⟨25,[],[(3,⟨[3,7,8,9],[21],[(3,21,yI,true)],[],[],[],[]⟩)],[],[],[]⟩
noncomputable def pol_Z24:Pol := ⟨21,[(14,[some 20])],[(3,⟨[3,6,7,8],[16],[(3,16,yL,true)],[],[],[],[]⟩)],[],[],[]⟩
noncomputable def pol_Z21:Pol := ⟨17,[],[],[],[],[]⟩
noncomputable def pol_Z114:Pol := ⟨48,[(40,[some 47])],[(5,⟨[1,8,9,11,12],[8,22],[],[],[],[],[]⟩)],[],[],[]⟩
noncomputable def pol_Z25:Pol := ⟨32,[],[(3,⟨[0,1,2,7,10,11],[],[],[],[],[],[]⟩)],[],[],[]⟩
noncomputable def pol_Z7:Pol := ⟨22,[],[],[],[],[]⟩
noncomputable def pol_Z22:Pol := ⟨18,[],[],[],[],[]⟩
noncomputable def pol_Z125:Pol := ⟨11,[],[],[],[],[]⟩
noncomputable def pol_Z118:Pol := ⟨42,[],[(4,⟨[0,1,5],[],[],[],[],[],[]⟩)],[],[],[]⟩
noncomputable def pol_Z120:Pol := ⟨19,[(9,[some 18])],[],[],[],[]⟩
noncomputable def pol_Z131:Pol := ⟨16,[],[],[],[],[]⟩
noncomputable def pol_Z111:Pol := ⟨248,[(37,[some 247])],[(8,⟨[0,2,5,6,7,8,9,10,11],[2,5,47,247],[],[],[],[],[]⟩),(11,⟨[0,2,5,6,7,8,9,10,11,12],[2,5,47,247],[],[],[],[],[]⟩),(17,⟨[0,2,5,6,7,8,9,10,11,12,13],[2,5,47,247],[],[],[],[],[]⟩),(26,⟨[0,2,5,6,7,8,9,10,11,16,17],[2,5,47,247],[],[],[],[],[]⟩),(30,⟨[0,2,5,6,7,8,9,10,11,18],[2,5,47,247],[],[],[],[],[]⟩),(35,⟨[0,2,5,6,7,8,9,10,11,18,19,20],[2,5,47,247],[],[],[],[],[]⟩)],[],[(2,⟨[0,2,5],[2,5,247],[],[],[],[],[]⟩),(22,⟨[0,2,5,6,7,8,9,10,11],[2,5,47,247],[],[],[],[],[]⟩),(1000058,⟨[0,2,5,6,7,8,9,10,11,58],[2,5,47,247],[],[],[],[],[]⟩),(1000079,⟨[0,2,5,6,7,8,9,10,11,12,79],[2,5,47,247],[],[],[],[],[]⟩),(1000200,⟨[0,2,5,6,7,8,9,10,11,18,19,200],[2,5,47,247],[],[],[],[],[]⟩)],[]⟩
noncomputable def pol_Z99:Pol := ⟨20,[],[(2,⟨[0,1,5],[],[],[],[],[],[]⟩)],[],[],[]⟩
noncomputable def pol_Z110:Pol := ⟨14,[],[],[],[],[]⟩
noncomputable def pol_Z11:Pol := ⟨21,[],[],[],[],[]⟩
noncomputable def pol_Z79:Pol := ⟨11,[],[],[],[],[]⟩
noncomputable def pol_Z29:Pol := ⟨29,[(22,[some 28])],[(3,⟨[0,3,6,7],[24],[(3,24,yL,true)],[],[],[],[]⟩)],[],[],[]⟩
noncomputable def pol_Z9:Pol := ⟨16,[],[],[],[],[]⟩
noncomputable def pol_Z60:Pol := ⟨18,[],[],[],[],[]⟩
noncomputable def pol_Z52:Pol := ⟨24,[(14,[some 23])],[(3,⟨[1,3,6,7],[1,16],[(3,16,yL,true)],[],[],[],[]⟩)],[],[],[]⟩
noncomputable def pol_Z26:Pol := ⟨125,[(77,[some 123]),(110,[some 124])],[(4,⟨[0,1,2,8,9,16,17],[116,120],[(8,116,yI,true)],[],[],[],[]⟩),(17,⟨[0,1,2,8,9,10,11,16,17,79,80,81],[10,116,120],[],[],[],[],[]⟩)],[],[(13,⟨[0,1,2,8,9,10,11,16,17],[10,116,120],[],[],[],[],[]⟩),(16,⟨[0,1,2,8,9,10,11,16,17],[10,116,120],[],[],[],[],[]⟩),(1000095,⟨[0,1,2,8,9,10,11,14,15,16,17,79,80,81,95],[10,116,120],[],[],[],[],[]⟩)],[]⟩
noncomputable def pol_Z85:Pol := ⟨11,[],[],[],[],[]⟩
noncomputable def pol_Z51:Pol := ⟨14,[],[],[],[],[]⟩
noncomputable def pol_Z28:Pol := ⟨29,[],[(3,⟨[2,5,13,14,15],[2,24],[(5,24,yI,true)],[],[],[],[]⟩)],[],[],[]⟩
noncomputable def pol_Z108:Pol := ⟨81,[],[(3,⟨[0,1,4,5,6],[4,5,24],[],[],[],[],[]⟩)],[],[(2,⟨[0,1,4,5],[4,5,24],[],[],[],[],[]⟩)],[]⟩
noncomputable def pol_Z82:Pol := ⟨11,[],[],[],[],[]⟩
noncomputable def pol_Z45:Pol := ⟨6,[],[],[],[],[]⟩
noncomputable def pol_Z30:Pol := ⟨40,[],[(3,⟨[2,3,8,9,16,17],[8,9,31],[],[(9,3,31,yI,true)],[],[],[]⟩),(6,⟨[2,3,8,9,10,16,17,20,21],[8,9,31],[],[(9,3,31,yI,true)],[],[],[]⟩)],[],[],[]⟩
noncomputable def pol_Z58:Pol := ⟨13,[],[],[],[],[]⟩
noncomputable def pol_Z6:Pol := ⟨23,[],[],[],[],[]⟩
noncomputable def pol_Z78:Pol := ⟨38,[(24,[some 37])],[(3,⟨[0,3,9,10,11],[],[],[],[],[],[]⟩),(11,⟨[6,25,26,27],[37],[],[],[],[],[]⟩)],[],[],[]⟩
noncomputable def pol_Z136:Pol := ⟨45,[],[(2,⟨[0,1,2,3,9],[],[],[],[],[],[]⟩)],[],[(1000040,⟨[0,1,2,3,9,40],[],[],[],[],[],[]⟩)],[]⟩
noncomputable def pol_Z62:Pol := ⟨7,[],[],[],[],[]⟩
noncomputable def pol_Z73:Pol := ⟨52,[],[(3,⟨[0,1,2,8,9,10],[],[],[],[],[],[]⟩)],[],[],[]⟩
noncomputable def pol_Z102:Pol := ⟨51,[],[(4,⟨[0,1,5,6,7],[8],[],[],[],[],[]⟩)],[],[(10,⟨[0,1,5,6,7],[8],[],[],[],[],[]⟩),(1000024,⟨[0,1,5,6,7,24],[8],[],[],[],[],[]⟩)],[]⟩
noncomputable def pol_Z104:Pol := ⟨28,[],[(4,⟨[0,1,5],[],[],[],[],[],[]⟩)],[],[],[]⟩
noncomputable def pol_Z41:Pol := ⟨17,[],[],[],[],[]⟩
noncomputable def pol_Z75:Pol := ⟨9,[],[],[],[(1000004,⟨[0,4],[],[],[],[],[],[]⟩)],[]⟩
noncomputable def pol_Z2:Pol := ⟨19,[],[(3,⟨[3,6,7,8],[],[],[],[],[],[]⟩)],[],[],[]⟩
noncomputable def pol_Z0:Pol := ⟨22,[],[],[],[],[]⟩
noncomputable def pol_Z77:Pol := ⟨38,[],[(2,⟨[0,1,9,10,11],[],[],[],[],[],[]⟩)],[],[],[]⟩
noncomputable def pol_Z117:Pol := ⟨33,[],[(3,⟨[2,6,7,8],[6,7,13],[],[],[],[],[]⟩)],[],[],[]⟩
noncomputable def pol_Z23:Pol := ⟨53,[],[(4,⟨[1,2,6,7,12,13,14],[2,25],[(6,25,yI,true)],[],[],[],[]⟩)],[],[],[]⟩
noncomputable def pol_Z103:Pol := ⟨41,[],[(2,⟨[0,1,2,7],[],[],[],[],[],[]⟩)],[],[(1000037,⟨[0,1,2,7,37],[],[],[],[],[],[]⟩)],[]⟩
noncomputable def pol_Z107:Pol := ⟨21,[],[(3,⟨[0,1,5,6],[],[],[],[],[],[]⟩)],[],[],[]⟩
noncomputable def pol_Z42:Pol := ⟨21,[],[(2,⟨[0,3],[],[],[],[],[],[]⟩)],[],[],[]⟩
noncomputable def pol_Z12:Pol := ⟨7,[],[],[],[],[]⟩
noncomputable def pol_Z43:Pol := ⟨6,[],[],[],[],[]⟩
noncomputable def pol_Z87:Pol := ⟨21,[],[(2,⟨[0,1,7,8],[],[],[],[],[],[]⟩)],[],[],[]⟩
noncomputable def pol_Z27:Pol := ⟨11,[],[],[],[],[]⟩
noncomputable def pol_Z13:Pol := ⟨38,[],[(3,⟨[0,1,2,3,9,12,13],[31],[(9,31,yI,true)],[],[],[],[]⟩)],[],[],[]⟩
noncomputable def pol_Z37:Pol := ⟨12,[],[],[],[],[]⟩
noncomputable def pol_Z91:Pol := ⟨21,[],[(2,⟨[0,1,7,8],[],[],[],[],[],[]⟩)],[],[],[]⟩
noncomputable def pol_Z3:Pol := ⟨7,[],[],[],[],[]⟩
noncomputable def pol_Z1:Pol := ⟨22,[],[],[],[],[]⟩
noncomputable def pol_Z48:Pol := ⟨23,[],[(3,⟨[3,7,8,9],[17],[(3,17,yI,true)],[],[],[],[]⟩)],[],[],[]⟩
noncomputable def pol_Z50:Pol := ⟨29,[],[(2,⟨[0,1,2,7],[],[],[],[],[],[]⟩)],[],[],[]⟩
noncomputable def pol_Z4:Pol := ⟨7,[],[],[],[],[]⟩
noncomputable def pol_Z49:Pol := ⟨6,[],[],[],[],[]⟩
noncomputable def sigL:List (Option Sig) := [none,none,none,none,none,none,none,none,none,none,some sg_Z63,some sg_Z67,none,some sg_Z70,none,some sg_Z66,some sg_Z64,none,none,none,none,some sg_Z71,none,some sg_Z65,none,none,none,none,none,none,none,none,none,none,none,none,none,none,none,none,none,none,none,none,some sg_Z97,some sg_Z5,some sg_Z69,some sg_Z126,some sg_Z127,some sg_Z72,none,some sg_Z33,none,none,none,some sg_Z128,none,none,none,some sg_Z16,some sg_Z105,some sg_Z133,some sg_Z119,some sg_Z123,some sg_Z135,some sg_Z19,some sg_Z18,some sg_Z68,none,none,none,none,none,some sg_Z54,none,none,none,none,none,none,some sg_Z101,some sg_Z134,none,some sg_Z47,some sg_Z34,none,none,none,none,none,none,none,some sg_Z106,some sg_Z116,some sg_Z115,some sg_Z15,some sg_Z35,some sg_Z124,some sg_Z98,some sg_Z129,some sg_Z109,some sg_Z8,some sg_Z10,some sg_Z39,some sg_Z53,some sg_Z46,some sg_Z17,none,none,some sg_Z132,some sg_Z112,some sg_Z113,some sg_Z121,some sg_Z130,none,some sg_Z44,none,none,some sg_Z57,none,some sg_Z56,some sg_Z20,some sg_Z100,some sg_Z138,some sg_Z140,some sg_Z139,some sg_Z61,some sg_Z55,some sg_Z95,some sg_Z36,some sg_Z14,some sg_Z38,none,none,none,none,none,none,none,none,some sg_Z137,some sg_Z122,none,some sg_Z40,some sg_Z59,some sg_Z96,some sg_Z76,some sg_Z24,none,some sg_Z21,none,none,none,none,none,none,none,some sg_Z114,some sg_Z25,some sg_Z7,some sg_Z22,some sg_Z125,some sg_Z118,some sg_Z120,some sg_Z131,some sg_Z111,some sg_Z99,some sg_Z110,some sg_Z11,some sg_Z79,some sg_Z29,some sg_Z9,some sg_Z60,some sg_Z52,some sg_Z26,some sg_Z85,some sg_Z51,some sg_Z28,some sg_Z108,some sg_Z82,some sg_Z45,none,some sg_Z30,some sg_Z58,some sg_Z6,some sg_Z78,some sg_Z136,some sg_Z62,some sg_Z73,none,none,none,none,none,none,none,none,none,none,none,none,none,some sg_Z102,some sg_Z104,some sg_Z41,none,none,some sg_Z75,none,some sg_Z2,some sg_Z0,some sg_Z77,none,some sg_Z117,some sg_Z23,some sg_Z103,some sg_Z107,some sg_Z42,some sg_Z12,some sg_Z43,some sg_Z87,some sg_Z27,some sg_Z13,some sg_Z37,some sg_Z91,some sg_Z86,none,none,none,none,none,none,none,none,none,none,none,none,none,none,none,none,none,none,none,none,none,none,none,none,none,some sg_Z3,some sg_Z1,none,none,some sg_Z48,some sg_Z50,none,none,none,none,none,none,some sg_Z4,none,none,none,some sg_Z49,none,none,none,none,none,none,none,none,none,none,none,none,none,none,none,none,none,none]
noncomputable def fnL:List (Option (Func × Pol)) := [none,none,none,none,none,none,none,none,none,none,some (F_Z63,pol_Z63),some (F_Z67,pol_Z67),none,some (F_Z70,pol_Z70),none,some (F_Z66,pol_Z66),some (F_Z64,pol_Z64),none,none,none,none,some (F_Z71,pol_Z71),none,some (F_Z65,pol_Z65),none,none,none,none,none,none,none,none,none,none,none,none,none,none,none,none,none,none,none,none,some (F_Z97,pol_Z97),some (F_Z5,pol_Z5),some (F_Z69,pol_Z69),some (F_Z126,pol_Z126),some (F_Z127,pol_Z127),some (F_Z72,pol_Z72),none,some (F_Z33,pol_Z33),none,none,none,some (F_Z128,pol_Z128),none,none,none,some (F_Z16,pol_Z16),some (F_Z105,pol_Z105),some (F_Z133,pol_Z133),some (F_Z119,pol_Z119),some (F_Z123,pol_Z123),some (F_Z135,pol_Z135),some (F_Z19,pol_Z19),some (F_Z18,pol_Z18),some (F_Z68,pol_Z68),none,none,none,none,none,some (F_Z54,pol_Z54),none,none,none,none,none,none,some (F_Z101,pol_Z101),some (F_Z134,pol_Z134),none,some (F_Z47,pol_Z47),some (F_Z34,pol_Z34),none,none,none,none,none,none,none,some (F_Z106,pol_Z106),some (F_Z116,pol_Z116),some (F_Z115,pol_Z115),some (F_Z15,pol_Z15),some (F_Z35,pol_Z35),some (F_Z124,pol_Z124),some (F_Z98,pol_Z98),some (F_Z129,pol_Z129),some (F_Z109,pol_Z109),some (F_Z8,pol_Z8),some (F_Z10,pol_Z10),some (F_Z39,pol_Z39),some (F_Z53,pol_Z53),some (F_Z46,pol_Z46),some (F_Z17,pol_Z17),none,none,some (F_Z132,pol_Z132),some (F_Z112,pol_Z112),some (F_Z113,pol_Z113),some (F_Z121,pol_Z121),some (F_Z130,pol_Z130),none,some (F_Z44,pol_Z44),none,none,some (F_Z57,pol_Z57),none,some (F_Z56,pol_Z56),some (F_Z20,pol_Z20),some (F_Z100,pol_Z100),some (F_Z138,pol_Z138),some (F_Z140,pol_Z140),some (F_Z139,pol_Z139),some (F_Z61,pol_Z61),some (F_Z55,pol_Z55),some (F_Z95,pol_Z95),some (F_Z36,pol_Z36),some (F_Z14,pol_Z14),some (F_Z38,pol_Z38),none,none,none,none,none,none,none,none,some (F_Z137,pol_Z137),some (F_Z122,pol_Z122),none,some (F_Z40,pol_Z40),some (F_Z59,pol_Z59),none,none,some (F_Z24,pol_Z24),none,some (F_Z21,pol_Z21),none,none,none,none,none,none,none,some (F_Z114,pol_Z114),some (F_Z25,pol_Z25),some (F_Z7,pol_Z7),some (F_Z22,pol_Z22),some (F_Z125,pol_Z125),some (F_Z118,pol_Z118),some (F_Z120,pol_Z120),some (F_Z131,pol_Z131),some (F_Z111,pol_Z111),some (F_Z99,pol_Z99),some (F_Z110,pol_Z110),some (F_Z11,pol_Z11),some (F_Z79,pol_Z79),some (F_Z29,pol_Z29),some (F_Z9,pol_Z9),some (F_Z60,pol_Z60),some (F_Z52,pol_Z52),some (F_Z26,pol_Z26),some (F_Z85,pol_Z85),some (F_Z51,pol_Z51),some (F_Z28,pol_Z28),some (F_Z108,pol_Z108),some (F_Z82,pol_Z82),some (F_Z45,pol_Z45),none,some (F_Z30,pol_Z30),some (F_Z58,pol_Z58),some (F_Z6,pol_Z6),some (F_Z78,pol_Z78),some (F_Z136,pol_Z136),some (F_Z62,pol_Z62),some (F_Z73,pol_Z73),none,none,none,none,none,none,none,none,none,none,none,none,none,some (F_Z102,pol_Z102),some (F_Z104,pol_Z104),some (F_Z41,pol_Z41),none,none,some (F_Z75,pol_Z75),none,some (F_Z2,pol_Z2),some (F_Z0,pol_Z0),some (F_Z77,pol_Z77),none,some (F_Z117,pol_Z117),some (F_Z23,pol_Z23),some (F_Z103,pol_Z103),some (F_Z107,pol_Z107),some (F_Z42,pol_Z42),some (F_Z12,pol_Z12),some (F_Z43,pol_Z43),some (F_Z87,pol_Z87),some (F_Z27,pol_Z27),some (F_Z13,pol_Z13),some (F_Z37,pol_Z37),some (F_Z91,pol_Z91),none,none,none,none,none,none,none,none,none,none,none,none,none,none,none,none,none,none,none,none,none,none,none,none,none,none,some (F_Z3,pol_Z3),some (F_Z1,pol_Z1),none,none,some (F_Z48,pol_Z48),some (F_Z50,pol_Z50),none,none,none,none,none,none,some (F_Z4,pol_Z4),none,none,none,some (F_Z49,pol_Z49),none,none,none,none,none,none,none,none,none,none,none,none,none,none,none,none,none,none]
noncomputable def primL:List (Option (Run → List Dv → Option Dv)) := [none,none,none,none,none,none,none,none,none,none,none,none,none,none,none,none,none,none,none,none,none,none,none,none,none,none,none,none,none,none,none,none,none,none,none,none,none,none,none,none,none,none,none,none,none,none,none,none,none,none,none,none,none,none,none,none,none,none,none,none,none,none,none,none,none,none,none,none,none,none,none,none,none,none,none,none,none,none,none,none,none,none,none,none,none,none,none,none,none,none,none,none,none,none,none,none,none,none,none,none,none,none,none,none,none,none,none,none,none,none,none,none,none,none,none,none,none,none,none,none,none,none,none,none,none,none,none,none,none,none,none,none,none,none,none,none,none,none,none,none,none,none,none,none,none,some pSortI,some pCompI,none,none,none,none,none,none,none,none,none,none,none,none,none,none,none,none,none,none,none,none,none,none,none,none,none,none,none,none,none,none,none,none,none,none,none,none,none,none,none,none,none,none,none,none,none,none,none,none,none,none,none,none,none,none,none,none,none,none,none,none,none,none,none,none,none,none,none,none,none,none,none,none,none,none,none,none,none,none,some (pGrow yI),none,none,none,none,none,none,none,none,none,none,none,none,none,none,none,none,none,none,none,none,none,none,none,none,none,none,none,none,none,none,none,none,none,none,none,none,none,none,none,none,none,none,none,none,none,none,none,none,none,none,none,none,none,none,none,none,none,none,none,none]
noncomputable def E:Env := { P := Tryz.prog,fn := fun f => fnL.getD f none,prim := fun f => primL.getD f none,sig := fun f => sigL.getD f none }
theorem sig_laws_FnExactInducedRank_eq:E.sig n_Z63 = some sg_Z63 := rfl
theorem run_Z63 (n:Nat) (args:List Dv):run E (n + 1) n_Z63 args = evFn E (mkR (run E n)) sg_Z63 pol_Z63 F_Z63 n args := rfl
theorem sig_laws_szComplex_eq:E.sig n_Z67 = some sg_Z67 := rfl
theorem run_Z67 (n:Nat) (args:List Dv):run E (n + 1) n_Z67 args = evFn E (mkR (run E n)) sg_Z67 pol_Z67 F_Z67 n args := rfl
theorem sig_laws_toComplex_eq:E.sig n_Z70 = some sg_Z70 := rfl
theorem run_Z70 (n:Nat) (args:List Dv):run E (n + 1) n_Z70 args = evFn E (mkR (run E n)) sg_Z70 pol_Z70 F_Z70 n args := rfl
theorem sig_laws_eqInt64SS_eq:E.sig n_Z66 = some sg_Z66 := rfl
theorem run_Z66 (n:Nat) (args:List Dv):run E (n + 1) n_Z66 args = evFn E (mkR (run E n)) sg_Z66 pol_Z66 F_Z66 n args := rfl
theorem sig_laws_eqComplex_eq:E.sig n_Z64 = some sg_Z64 := rfl
theorem run_Z64 (n:Nat) (args:List Dv):run E (n + 1) n_Z64 args = evFn E (mkR (run E n)) sg_Z64 pol_Z64 F_Z64 n args := rfl
theorem sig_laws_toInt64S_eq:E.sig n_Z71 = some sg_Z71 := rfl
theorem run_Z71 (n:Nat) (args:List Dv):run E (n + 1) n_Z71 args = evFn E (mkR (run E n)) sg_Z71 pol_Z71 F_Z71 n args := rfl
theorem sig_laws_eqInt64S_eq:E.sig n_Z65 = some sg_Z65 := rfl
theorem run_Z65 (n:Nat) (args:List Dv):run E (n + 1) n_Z65 args = evFn E (mkR (run E n)) sg_Z65 pol_Z65 F_Z65 n args := rfl
theorem sig_spec_InducedRank_eq:E.sig n_Z97 = some sg_Z97 := rfl
theorem run_Z97 (n:Nat) (args:List Dv):run E (n + 1) n_Z97 args = evFn E (mkR (run E n)) sg_Z97 pol_Z97 F_Z97 n args := rfl
theorem sig_impl_InducedRank_eq:E.sig n_Z5 = some sg_Z5 := rfl
theorem run_Z5 (n:Nat) (args:List Dv):run E (n + 1) n_Z5 args = evFn E (mkR (run E n)) sg_Z5 pol_Z5 F_Z5 n args := rfl
theorem sig_laws_szInt64SS_eq:E.sig n_Z69 = some sg_Z69 := rfl
theorem run_Z69 (n:Nat) (args:List Dv):run E (n + 1) n_Z69 args = evFn E (mkR (run E n)) sg_Z69 pol_Z69 F_Z69 n args := rfl
theorem sig_spec_l07Ask_eq:E.sig n_Z126 = some sg_Z126 := rfl
theorem run_Z126 (n:Nat) (args:List Dv):run E (n + 1) n_Z126 args = evFn E (mkR (run E n)) sg_Z126 pol_Z126 F_Z126 n args := rfl
theorem sig_spec_l07Basis_eq:E.sig n_Z127 = some sg_Z127 := rfl
theorem run_Z127 (n:Nat) (args:List Dv):run E (n + 1) n_Z127 args = evFn E (mkR (run E n)) sg_Z127 pol_Z127 F_Z127 n args := rfl
theorem sig_laws_toInt64SS_eq:E.sig n_Z72 = some sg_Z72 := rfl
theorem run_Z72 (n:Nat) (args:List Dv):run E (n + 1) n_Z72 args = evFn E (mkR (run E n)) sg_Z72 pol_Z72 F_Z72 n args := rfl
theorem sig_impl_homologyBasis_eq:E.sig n_Z33 = some sg_Z33 := rfl
theorem run_Z33 (n:Nat) (args:List Dv):run E (n + 1) n_Z33 args = evFn E (mkR (run E n)) sg_Z33 pol_Z33 F_Z33 n args := rfl
theorem sig_spec_l07Boundary_eq:E.sig n_Z128 = some sg_Z128 := rfl
theorem run_Z128 (n:Nat) (args:List Dv):run E (n + 1) n_Z128 args = evFn E (mkR (run E n)) sg_Z128 pol_Z128 F_Z128 n args := rfl
theorem sig_impl_boundaries_eq:E.sig n_Z16 = some sg_Z16 := rfl
theorem run_Z16 (n:Nat) (args:List Dv):run E (n + 1) n_Z16 args = evFn E (mkR (run E n)) sg_Z16 pol_Z16 F_Z16 n args := rfl
theorem sig_spec_l02Prime_eq:E.sig n_Z105 = some sg_Z105 := rfl
theorem run_Z105 (n:Nat) (args:List Dv):run E (n + 1) n_Z105 args = evFn E (mkR (run E n)) sg_Z105 pol_Z105 F_Z105 n args := rfl
theorem sig_spec_l08Ask_eq:E.sig n_Z133 = some sg_Z133 := rfl
theorem run_Z133 (n:Nat) (args:List Dv):run E (n + 1) n_Z133 args = evFn E (mkR (run E n)) sg_Z133 pol_Z133 F_Z133 n args := rfl
theorem sig_spec_l05Dimension_eq:E.sig n_Z119 = some sg_Z119 := rfl
theorem run_Z119 (n:Nat) (args:List Dv):run E (n + 1) n_Z119 args = evFn E (mkR (run E n)) sg_Z119 pol_Z119 F_Z119 n args := rfl
theorem sig_spec_l05Of_eq:E.sig n_Z123 = some sg_Z123 := rfl
theorem run_Z123 (n:Nat) (args:List Dv):run E (n + 1) n_Z123 args = evFn E (mkR (run E n)) sg_Z123 pol_Z123 F_Z123 n args := rfl
theorem sig_spec_l08Chain_eq:E.sig n_Z135 = some sg_Z135 := rfl
theorem run_Z135 (n:Nat) (args:List Dv):run E (n + 1) n_Z135 args = evFn E (mkR (run E n)) sg_Z135 pol_Z135 F_Z135 n args := rfl
theorem sig_impl_chainMapped_eq:E.sig n_Z19 = some sg_Z19 := rfl
theorem run_Z19 (n:Nat) (args:List Dv):run E (n + 1) n_Z19 args = evFn E (mkR (run E n)) sg_Z19 pol_Z19 F_Z19 n args := rfl
theorem sig_impl_chainMap_eq:E.sig n_Z18 = some sg_Z18 := rfl
theorem run_Z18 (n:Nat) (args:List Dv):run E (n + 1) n_Z18 args = evFn E (mkR (run E n)) sg_Z18 pol_Z18 F_Z18 n args := rfl
theorem sig_laws_szInt64S_eq:E.sig n_Z68 = some sg_Z68 := rfl
theorem run_Z68 (n:Nat) (args:List Dv):run E (n + 1) n_Z68 args = evFn E (mkR (run E n)) sg_Z68 pol_Z68 F_Z68 n args := rfl
theorem sig_impl_size_Sint64_eq:E.sig n_Z54 = some sg_Z54 := rfl
theorem run_Z54 (n:Nat) (args:List Dv):run E (n + 1) n_Z54 args = evFn E (mkR (run E n)) sg_Z54 pol_Z54 F_Z54 n args := rfl
theorem sig_spec_l00Own_eq:E.sig n_Z101 = some sg_Z101 := rfl
theorem run_Z101 (n:Nat) (args:List Dv):run E (n + 1) n_Z101 args = evFn E (mkR (run E n)) sg_Z101 pol_Z101 F_Z101 n args := rfl
theorem sig_spec_l08At_eq:E.sig n_Z134 = some sg_Z134 := rfl
theorem run_Z134 (n:Nat) (args:List Dv):run E (n + 1) n_Z134 args = evFn E (mkR (run E n)) sg_Z134 pol_Z134 F_Z134 n args := rfl
theorem sig_impl_mapped_eq:E.sig n_Z47 = some sg_Z47 := rfl
theorem run_Z47 (n:Nat) (args:List Dv):run E (n + 1) n_Z47 args = evFn E (mkR (run E n)) sg_Z47 pol_Z47 F_Z47 n args := rfl
theorem sig_impl_imageOf_eq:E.sig n_Z34 = some sg_Z34 := rfl
theorem run_Z34 (n:Nat) (args:List Dv):run E (n + 1) n_Z34 args = evFn E (mkR (run E n)) sg_Z34 pol_Z34 F_Z34 n args := rfl
theorem sig_spec_l03Apply_eq:E.sig n_Z106 = some sg_Z106 := rfl
theorem run_Z106 (n:Nat) (args:List Dv):run E (n + 1) n_Z106 args = evFn E (mkR (run E n)) sg_Z106 pol_Z106 F_Z106 n args := rfl
theorem sig_spec_l04Extend_eq:E.sig n_Z116 = some sg_Z116 := rfl
theorem run_Z116 (n:Nat) (args:List Dv):run E (n + 1) n_Z116 args = evFn E (mkR (run E n)) sg_Z116 pol_Z116 F_Z116 n args := rfl
theorem sig_spec_l04Columns_eq:E.sig n_Z115 = some sg_Z115 := rfl
theorem run_Z115 (n:Nat) (args:List Dv):run E (n + 1) n_Z115 args = evFn E (mkR (run E n)) sg_Z115 pol_Z115 F_Z115 n args := rfl
theorem sig_impl_apply_eq:E.sig n_Z15 = some sg_Z15 := rfl
theorem run_Z15 (n:Nat) (args:List Dv):run E (n + 1) n_Z15 args = evFn E (mkR (run E n)) sg_Z15 pol_Z15 F_Z15 n args := rfl
theorem sig_impl_independent_eq:E.sig n_Z35 = some sg_Z35 := rfl
theorem run_Z35 (n:Nat) (args:List Dv):run E (n + 1) n_Z35 args = evFn E (mkR (run E n)) sg_Z35 pol_Z35 F_Z35 n args := rfl
theorem sig_spec_l05Ok_eq:E.sig n_Z124 = some sg_Z124 := rfl
theorem run_Z124 (n:Nat) (args:List Dv):run E (n + 1) n_Z124 args = evFn E (mkR (run E n)) sg_Z124 pol_Z124 F_Z124 n args := rfl
theorem sig_spec_ValidPrime_eq:E.sig n_Z98 = some sg_Z98 := rfl
theorem run_Z98 (n:Nat) (args:List Dv):run E (n + 1) n_Z98 args = evFn E (mkR (run E n)) sg_Z98 pol_Z98 F_Z98 n args := rfl
theorem sig_spec_l07Classes_eq:E.sig n_Z129 = some sg_Z129 := rfl
theorem run_Z129 (n:Nat) (args:List Dv):run E (n + 1) n_Z129 args = evFn E (mkR (run E n)) sg_Z129 pol_Z129 F_Z129 n args := rfl
theorem sig_spec_l03Kernel_eq:E.sig n_Z109 = some sg_Z109 := rfl
theorem run_Z109 (n:Nat) (args:List Dv):run E (n + 1) n_Z109 args = evFn E (mkR (run E n)) sg_Z109 pol_Z109 F_Z109 n args := rfl
theorem sig_impl_ValidComplex_eq:E.sig n_Z8 = some sg_Z8 := rfl
theorem run_Z8 (n:Nat) (args:List Dv):run E (n + 1) n_Z8 args = evFn E (mkR (run E n)) sg_Z8 pol_Z8 F_Z8 n args := rfl
theorem sig_impl_ValidPrime_eq:E.sig n_Z10 = some sg_Z10 := rfl
theorem run_Z10 (n:Nat) (args:List Dv):run E (n + 1) n_Z10 args = evFn E (mkR (run E n)) sg_Z10 pol_Z10 F_Z10 n args := rfl
theorem sig_impl_isDimension_eq:E.sig n_Z39 = some sg_Z39 := rfl
theorem run_Z39 (n:Nat) (args:List Dv):run E (n + 1) n_Z39 args = evFn E (mkR (run E n)) sg_Z39 pol_Z39 F_Z39 n args := rfl
theorem sig_impl_simplicesOf_eq:E.sig n_Z53 = some sg_Z53 := rfl
theorem run_Z53 (n:Nat) (args:List Dv):run E (n + 1) n_Z53 args = evFn E (mkR (run E n)) sg_Z53 pol_Z53 F_Z53 n args := rfl
theorem sig_impl_kernel_eq:E.sig n_Z46 = some sg_Z46 := rfl
theorem run_Z46 (n:Nat) (args:List Dv):run E (n + 1) n_Z46 args = evFn E (mkR (run E n)) sg_Z46 pol_Z46 F_Z46 n args := rfl
theorem sig_impl_boundaryMatrix_eq:E.sig n_Z17 = some sg_Z17 := rfl
theorem run_Z17 (n:Nat) (args:List Dv):run E (n + 1) n_Z17 args = evFn E (mkR (run E n)) sg_Z17 pol_Z17 F_Z17 n args := rfl
theorem sig_spec_l07With_eq:E.sig n_Z132 = some sg_Z132 := rfl
theorem run_Z132 (n:Nat) (args:List Dv):run E (n + 1) n_Z132 args = evFn E (mkR (run E n)) sg_Z132 pol_Z132 F_Z132 n args := rfl
theorem sig_spec_l03Solve_eq:E.sig n_Z112 = some sg_Z112 := rfl
theorem run_Z112 (n:Nat) (args:List Dv):run E (n + 1) n_Z112 args = evFn E (mkR (run E n)) sg_Z112 pol_Z112 F_Z112 n args := rfl
theorem sig_spec_l03Zero_eq:E.sig n_Z113 = some sg_Z113 := rfl
theorem run_Z113 (n:Nat) (args:List Dv):run E (n + 1) n_Z113 args = evFn E (mkR (run E n)) sg_Z113 pol_Z113 F_Z113 n args := rfl
theorem sig_spec_l05Faces_eq:E.sig n_Z121 = some sg_Z121 := rfl
theorem run_Z121 (n:Nat) (args:List Dv):run E (n + 1) n_Z121 args = evFn E (mkR (run E n)) sg_Z121 pol_Z121 F_Z121 n args := rfl
theorem sig_spec_l07Sign_eq:E.sig n_Z130 = some sg_Z130 := rfl
theorem run_Z130 (n:Nat) (args:List Dv):run E (n + 1) n_Z130 args = evFn E (mkR (run E n)) sg_Z130 pol_Z130 F_Z130 n args := rfl
theorem sig_impl_isZero_eq:E.sig n_Z44 = some sg_Z44 := rfl
theorem run_Z44 (n:Nat) (args:List Dv):run E (n + 1) n_Z44 args = evFn E (mkR (run E n)) sg_Z44 pol_Z44 F_Z44 n args := rfl
theorem sig_impl_transpose_eq:E.sig n_Z57 = some sg_Z57 := rfl
theorem run_Z57 (n:Nat) (args:List Dv):run E (n + 1) n_Z57 args = evFn E (mkR (run E n)) sg_Z57 pol_Z57 F_Z57 n args := rfl
theorem sig_impl_spaceOf_eq:E.sig n_Z56 = some sg_Z56 := rfl
theorem run_Z56 (n:Nat) (args:List Dv):run E (n + 1) n_Z56 args = evFn E (mkR (run E n)) sg_Z56 pol_Z56 F_Z56 n args := rfl
theorem sig_impl_columnsOf_eq:E.sig n_Z20 = some sg_Z20 := rfl
theorem run_Z20 (n:Nat) (args:List Dv):run E (n + 1) n_Z20 args = evFn E (mkR (run E n)) sg_Z20 pol_Z20 F_Z20 n args := rfl
theorem sig_spec_l00In_eq:E.sig n_Z100 = some sg_Z100 := rfl
theorem run_Z100 (n:Nat) (args:List Dv):run E (n + 1) n_Z100 args = evFn E (mkR (run E n)) sg_Z100 pol_Z100 F_Z100 n args := rfl
theorem sig_spec_l08Map_eq:E.sig n_Z138 = some sg_Z138 := rfl
theorem run_Z138 (n:Nat) (args:List Dv):run E (n + 1) n_Z138 args = evFn E (mkR (run E n)) sg_Z138 pol_Z138 F_Z138 n args := rfl
theorem sig_spec_l08Vertices_eq:E.sig n_Z140 = some sg_Z140 := rfl
theorem run_Z140 (n:Nat) (args:List Dv):run E (n + 1) n_Z140 args = evFn E (mkR (run E n)) sg_Z140 pol_Z140 F_Z140 n args := rfl
theorem sig_spec_l08Told_eq:E.sig n_Z139 = some sg_Z139 := rfl
theorem run_Z139 (n:Nat) (args:List Dv):run E (n + 1) n_Z139 args = evFn E (mkR (run E n)) sg_Z139 pol_Z139 F_Z139 n args := rfl
theorem sig_impl_zero_eq:E.sig n_Z61 = some sg_Z61 := rfl
theorem run_Z61 (n:Nat) (args:List Dv):run E (n + 1) n_Z61 args = evFn E (mkR (run E n)) sg_Z61 pol_Z61 F_Z61 n args := rfl
theorem sig_impl_size_int64_eq:E.sig n_Z55 = some sg_Z55 := rfl
theorem run_Z55 (n:Nat) (args:List Dv):run E (n + 1) n_Z55 args = evFn E (mkR (run E n)) sg_Z55 pol_Z55 F_Z55 n args := rfl
theorem sig_slices_Index_Sint64_int64_eq:E.sig n_Z95 = some sg_Z95 := rfl
theorem run_Z95 (n:Nat) (args:List Dv):run E (n + 1) n_Z95 args = evFn E (mkR (run E n)) sg_Z95 pol_Z95 F_Z95 n args := rfl
theorem sig_impl_indexOf_eq:E.sig n_Z36 = some sg_Z36 := rfl
theorem run_Z36 (n:Nat) (args:List Dv):run E (n + 1) n_Z36 args = evFn E (mkR (run E n)) sg_Z36 pol_Z36 F_Z36 n args := rfl
theorem sig_impl_alternating_eq:E.sig n_Z14 = some sg_Z14 := rfl
theorem run_Z14 (n:Nat) (args:List Dv):run E (n + 1) n_Z14 args = evFn E (mkR (run E n)) sg_Z14 pol_Z14 F_Z14 n args := rfl
theorem sig_impl_inversions_eq:E.sig n_Z38 = some sg_Z38 := rfl
theorem run_Z38 (n:Nat) (args:List Dv):run E (n + 1) n_Z38 args = evFn E (mkR (run E n)) sg_Z38 pol_Z38 F_Z38 n args := rfl
theorem sig_spec_l08Image_eq:E.sig n_Z137 = some sg_Z137 := rfl
theorem run_Z137 (n:Nat) (args:List Dv):run E (n + 1) n_Z137 args = evFn E (mkR (run E n)) sg_Z137 pol_Z137 F_Z137 n args := rfl
theorem sig_spec_l05Find_eq:E.sig n_Z122 = some sg_Z122 := rfl
theorem run_Z122 (n:Nat) (args:List Dv):run E (n + 1) n_Z122 args = evFn E (mkR (run E n)) sg_Z122 pol_Z122 F_Z122 n args := rfl
theorem sig_impl_isMap_eq:E.sig n_Z40 = some sg_Z40 := rfl
theorem run_Z40 (n:Nat) (args:List Dv):run E (n + 1) n_Z40 args = evFn E (mkR (run E n)) sg_Z40 pol_Z40 F_Z40 n args := rfl
theorem sig_impl_verticesOf_eq:E.sig n_Z59 = some sg_Z59 := rfl
theorem run_Z59 (n:Nat) (args:List Dv):run E (n + 1) n_Z59 args = evFn E (mkR (run E n)) sg_Z59 pol_Z59 F_Z59 n args := rfl
theorem sig_slices_Sort_Sint64_int64_eq:E.sig n_Z96 = some sg_Z96 := rfl
theorem sig_slices_Compact_Sint64_int64_eq:E.sig n_Z76 = some sg_Z76 := rfl
theorem sig_impl_copyLists_eq:E.sig n_Z24 = some sg_Z24 := rfl
theorem run_Z24 (n:Nat) (args:List Dv):run E (n + 1) n_Z24 args = evFn E (mkR (run E n)) sg_Z24 pol_Z24 F_Z24 n args := rfl
theorem sig_impl_compareSimplices_eq:E.sig n_Z21 = some sg_Z21 := rfl
theorem run_Z21 (n:Nat) (args:List Dv):run E (n + 1) n_Z21 args = evFn E (mkR (run E n)) sg_Z21 pol_Z21 F_Z21 n args := rfl
theorem sig_spec_l04Basis_eq:E.sig n_Z114 = some sg_Z114 := rfl
theorem run_Z114 (n:Nat) (args:List Dv):run E (n + 1) n_Z114 args = evFn E (mkR (run E n)) sg_Z114 pol_Z114 F_Z114 n args := rfl
theorem sig_impl_dot_eq:E.sig n_Z25 = some sg_Z25 := rfl
theorem run_Z25 (n:Nat) (args:List Dv):run E (n + 1) n_Z25 args = evFn E (mkR (run E n)) sg_Z25 pol_Z25 F_Z25 n args := rfl
theorem sig_impl_Matrix_row_eq:E.sig n_Z7 = some sg_Z7 := rfl
theorem run_Z7 (n:Nat) (args:List Dv):run E (n + 1) n_Z7 args = evFn E (mkR (run E n)) sg_Z7 pol_Z7 F_Z7 n args := rfl
theorem sig_impl_contains_eq:E.sig n_Z22 = some sg_Z22 := rfl
theorem run_Z22 (n:Nat) (args:List Dv):run E (n + 1) n_Z22 args = evFn E (mkR (run E n)) sg_Z22 pol_Z22 F_Z22 n args := rfl
theorem sig_spec_l05Simplex_eq:E.sig n_Z125 = some sg_Z125 := rfl
theorem run_Z125 (n:Nat) (args:List Dv):run E (n + 1) n_Z125 args = evFn E (mkR (run E n)) sg_Z125 pol_Z125 F_Z125 n args := rfl
theorem sig_spec_l05Before_eq:E.sig n_Z118 = some sg_Z118 := rfl
theorem run_Z118 (n:Nat) (args:List Dv):run E (n + 1) n_Z118 args = evFn E (mkR (run E n)) sg_Z118 pol_Z118 F_Z118 n args := rfl
theorem sig_spec_l05Drop_eq:E.sig n_Z120 = some sg_Z120 := rfl
theorem run_Z120 (n:Nat) (args:List Dv):run E (n + 1) n_Z120 args = evFn E (mkR (run E n)) sg_Z120 pol_Z120 F_Z120 n args := rfl
theorem sig_spec_l07Spans_eq:E.sig n_Z131 = some sg_Z131 := rfl
theorem run_Z131 (n:Nat) (args:List Dv):run E (n + 1) n_Z131 args = evFn E (mkR (run E n)) sg_Z131 pol_Z131 F_Z131 n args := rfl
theorem sig_spec_l03Reduced_eq:E.sig n_Z111 = some sg_Z111 := rfl
theorem run_Z111 (n:Nat) (args:List Dv):run E (n + 1) n_Z111 args = evFn E (mkR (run E n)) sg_Z111 pol_Z111 F_Z111 n args := rfl
theorem sig_spec_l00Has_eq:E.sig n_Z99 = some sg_Z99 := rfl
theorem run_Z99 (n:Nat) (args:List Dv):run E (n + 1) n_Z99 args = evFn E (mkR (run E n)) sg_Z99 pol_Z99 F_Z99 n args := rfl
theorem sig_spec_l03Mod_eq:E.sig n_Z110 = some sg_Z110 := rfl
theorem run_Z110 (n:Nat) (args:List Dv):run E (n + 1) n_Z110 args = evFn E (mkR (run E n)) sg_Z110 pol_Z110 F_Z110 n args := rfl
theorem sig_impl_ValidSimplex_eq:E.sig n_Z11 = some sg_Z11 := rfl
theorem run_Z11 (n:Nat) (args:List Dv):run E (n + 1) n_Z11 args = evFn E (mkR (run E n)) sg_Z11 pol_Z11 F_Z11 n args := rfl
theorem sig_slices_ContainsFunc_SSint64_Sint64_eq:E.sig n_Z79 = some sg_Z79 := rfl
theorem run_Z79 (n:Nat) (args:List Dv):run E (n + 1) n_Z79 args = evFn E (mkR (run E n)) sg_Z79 pol_Z79 F_Z79 n args := rfl
theorem sig_impl_facesOf_eq:E.sig n_Z29 = some sg_Z29 := rfl
theorem run_Z29 (n:Nat) (args:List Dv):run E (n + 1) n_Z29 args = evFn E (mkR (run E n)) sg_Z29 pol_Z29 F_Z29 n args := rfl
theorem sig_impl_ValidComplex_1_eq:E.sig n_Z9 = some sg_Z9 := rfl
theorem run_Z9 (n:Nat) (args:List Dv):run E (n + 1) n_Z9 args = evFn E (mkR (run E n)) sg_Z9 pol_Z9 F_Z9 n args := rfl
theorem sig_impl_within_eq:E.sig n_Z60 = some sg_Z60 := rfl
theorem run_Z60 (n:Nat) (args:List Dv):run E (n + 1) n_Z60 args = evFn E (mkR (run E n)) sg_Z60 pol_Z60 F_Z60 n args := rfl
theorem sig_impl_rowsOf_eq:E.sig n_Z52 = some sg_Z52 := rfl
theorem run_Z52 (n:Nat) (args:List Dv):run E (n + 1) n_Z52 args = evFn E (mkR (run E n)) sg_Z52 pol_Z52 F_Z52 n args := rfl
theorem sig_impl_eliminate_eq:E.sig n_Z26 = some sg_Z26 := rfl
theorem run_Z26 (n:Nat) (args:List Dv):run E (n + 1) n_Z26 args = evFn E (mkR (run E n)) sg_Z26 pol_Z26 F_Z26 n args := rfl
theorem sig_slices_Contains_Sint64_int64_eq:E.sig n_Z85 = some sg_Z85 := rfl
theorem run_Z85 (n:Nat) (args:List Dv):run E (n + 1) n_Z85 args = evFn E (mkR (run E n)) sg_Z85 pol_Z85 F_Z85 n args := rfl
theorem sig_impl_reduce_eq:E.sig n_Z51 = some sg_Z51 := rfl
theorem run_Z51 (n:Nat) (args:List Dv):run E (n + 1) n_Z51 args = evFn E (mkR (run E n)) sg_Z51 pol_Z51 F_Z51 n args := rfl
theorem sig_impl_faceIndices_eq:E.sig n_Z28 = some sg_Z28 := rfl
theorem run_Z28 (n:Nat) (args:List Dv):run E (n + 1) n_Z28 args = evFn E (mkR (run E n)) sg_Z28 pol_Z28 F_Z28 n args := rfl
theorem sig_spec_l03Join_eq:E.sig n_Z108 = some sg_Z108 := rfl
theorem run_Z108 (n:Nat) (args:List Dv):run E (n + 1) n_Z108 args = evFn E (mkR (run E n)) sg_Z108 pol_Z108 F_Z108 n args := rfl
theorem sig_slices_ContainsFunc_Sint64_int64_eq:E.sig n_Z82 = some sg_Z82 := rfl
theorem run_Z82 (n:Nat) (args:List Dv):run E (n + 1) n_Z82 args = evFn E (mkR (run E n)) sg_Z82 pol_Z82 F_Z82 n args := rfl
theorem sig_impl_isZero_1_eq:E.sig n_Z45 = some sg_Z45 := rfl
theorem run_Z45 (n:Nat) (args:List Dv):run E (n + 1) n_Z45 args = evFn E (mkR (run E n)) sg_Z45 pol_Z45 F_Z45 n args := rfl
theorem sig_impl_filled_eq:E.sig n_Z30 = some sg_Z30 := rfl
theorem run_Z30 (n:Nat) (args:List Dv):run E (n + 1) n_Z30 args = evFn E (mkR (run E n)) sg_Z30 pol_Z30 F_Z30 n args := rfl
theorem sig_impl_transpose_1_eq:E.sig n_Z58 = some sg_Z58 := rfl
theorem run_Z58 (n:Nat) (args:List Dv):run E (n + 1) n_Z58 args = evFn E (mkR (run E n)) sg_Z58 pol_Z58 F_Z58 n args := rfl
theorem sig_impl_Matrix_at_eq:E.sig n_Z6 = some sg_Z6 := rfl
theorem run_Z6 (n:Nat) (args:List Dv):run E (n + 1) n_Z6 args = evFn E (mkR (run E n)) sg_Z6 pol_Z6 F_Z6 n args := rfl
theorem sig_slices_Concat_Sint64_int64_eq:E.sig n_Z78 = some sg_Z78 := rfl
theorem run_Z78 (n:Nat) (args:List Dv):run E (n + 1) n_Z78 args = evFn E (mkR (run E n)) sg_Z78 pol_Z78 F_Z78 n args := rfl
theorem sig_spec_l08Fits_eq:E.sig n_Z136 = some sg_Z136 := rfl
theorem run_Z136 (n:Nat) (args:List Dv):run E (n + 1) n_Z136 args = evFn E (mkR (run E n)) sg_Z136 pol_Z136 F_Z136 n args := rfl
theorem sig_impl_zero_1_eq:E.sig n_Z62 = some sg_Z62 := rfl
theorem run_Z62 (n:Nat) (args:List Dv):run E (n + 1) n_Z62 args = evFn E (mkR (run E n)) sg_Z62 pol_Z62 F_Z62 n args := rfl
theorem sig_slices_BinarySearchFunc_SSint64_Sint64_Sint64_eq:E.sig n_Z73 = some sg_Z73 := rfl
theorem run_Z73 (n:Nat) (args:List Dv):run E (n + 1) n_Z73 args = evFn E (mkR (run E n)) sg_Z73 pol_Z73 F_Z73 n args := rfl
theorem sig_spec_l00Put_eq:E.sig n_Z102 = some sg_Z102 := rfl
theorem run_Z102 (n:Nat) (args:List Dv):run E (n + 1) n_Z102 args = evFn E (mkR (run E n)) sg_Z102 pol_Z102 F_Z102 n args := rfl
theorem sig_spec_l00Same_eq:E.sig n_Z104 = some sg_Z104 := rfl
theorem run_Z104 (n:Nat) (args:List Dv):run E (n + 1) n_Z104 args = evFn E (mkR (run E n)) sg_Z104 pol_Z104 F_Z104 n args := rfl
theorem sig_impl_isMap_1_eq:E.sig n_Z41 = some sg_Z41 := rfl
theorem run_Z41 (n:Nat) (args:List Dv):run E (n + 1) n_Z41 args = evFn E (mkR (run E n)) sg_Z41 pol_Z41 F_Z41 n args := rfl
theorem sig_slices_Clone_Sint64_int64_eq:E.sig n_Z75 = some sg_Z75 := rfl
theorem run_Z75 (n:Nat) (args:List Dv):run E (n + 1) n_Z75 args = evFn E (mkR (run E n)) sg_Z75 pol_Z75 F_Z75 n args := rfl
theorem sig_cmp_Or_int_eq:E.sig n_Z2 = some sg_Z2 := rfl
theorem run_Z2 (n:Nat) (args:List Dv):run E (n + 1) n_Z2 args = evFn E (mkR (run E n)) sg_Z2 pol_Z2 F_Z2 n args := rfl
theorem sig_cmp_Compare_int_eq:E.sig n_Z0 = some sg_Z0 := rfl
theorem run_Z0 (n:Nat) (args:List Dv):run E (n + 1) n_Z0 args = evFn E (mkR (run E n)) sg_Z0 pol_Z0 F_Z0 n args := rfl
theorem sig_slices_Compare_Sint64_int64_eq:E.sig n_Z77 = some sg_Z77 := rfl
theorem run_Z77 (n:Nat) (args:List Dv):run E (n + 1) n_Z77 args = evFn E (mkR (run E n)) sg_Z77 pol_Z77 F_Z77 n args := rfl
theorem sig_spec_l04Rows_eq:E.sig n_Z117 = some sg_Z117 := rfl
theorem run_Z117 (n:Nat) (args:List Dv):run E (n + 1) n_Z117 args = evFn E (mkR (run E n)) sg_Z117 pol_Z117 F_Z117 n args := rfl
theorem sig_impl_coordinates_eq:E.sig n_Z23 = some sg_Z23 := rfl
theorem run_Z23 (n:Nat) (args:List Dv):run E (n + 1) n_Z23 args = evFn E (mkR (run E n)) sg_Z23 pol_Z23 F_Z23 n args := rfl
theorem sig_spec_l00Rises_eq:E.sig n_Z103 = some sg_Z103 := rfl
theorem run_Z103 (n:Nat) (args:List Dv):run E (n + 1) n_Z103 args = evFn E (mkR (run E n)) sg_Z103 pol_Z103 F_Z103 n args := rfl
theorem sig_spec_l03Inverse_eq:E.sig n_Z107 = some sg_Z107 := rfl
theorem run_Z107 (n:Nat) (args:List Dv):run E (n + 1) n_Z107 args = evFn E (mkR (run E n)) sg_Z107 pol_Z107 F_Z107 n args := rfl
theorem sig_impl_isRising_eq:E.sig n_Z42 = some sg_Z42 := rfl
theorem run_Z42 (n:Nat) (args:List Dv):run E (n + 1) n_Z42 args = evFn E (mkR (run E n)) sg_Z42 pol_Z42 F_Z42 n args := rfl
theorem sig_impl_ValidSimplex_1_eq:E.sig n_Z12 = some sg_Z12 := rfl
theorem run_Z12 (n:Nat) (args:List Dv):run E (n + 1) n_Z12 args = evFn E (mkR (run E n)) sg_Z12 pol_Z12 F_Z12 n args := rfl
theorem sig_impl_isVertex_eq:E.sig n_Z43 = some sg_Z43 := rfl
theorem run_Z43 (n:Nat) (args:List Dv):run E (n + 1) n_Z43 args = evFn E (mkR (run E n)) sg_Z43 pol_Z43 F_Z43 n args := rfl
theorem sig_slices_IndexFunc_SSint64_Sint64_eq:E.sig n_Z87 = some sg_Z87 := rfl
theorem run_Z87 (n:Nat) (args:List Dv):run E (n + 1) n_Z87 args = evFn E (mkR (run E n)) sg_Z87 pol_Z87 F_Z87 n args := rfl
theorem sig_impl_eliminate_1_eq:E.sig n_Z27 = some sg_Z27 := rfl
theorem run_Z27 (n:Nat) (args:List Dv):run E (n + 1) n_Z27 args = evFn E (mkR (run E n)) sg_Z27 pol_Z27 F_Z27 n args := rfl
theorem sig_impl_addTimes_eq:E.sig n_Z13 = some sg_Z13 := rfl
theorem run_Z13 (n:Nat) (args:List Dv):run E (n + 1) n_Z13 args = evFn E (mkR (run E n)) sg_Z13 pol_Z13 F_Z13 n args := rfl
theorem sig_impl_inverseOf_eq:E.sig n_Z37 = some sg_Z37 := rfl
theorem run_Z37 (n:Nat) (args:List Dv):run E (n + 1) n_Z37 args = evFn E (mkR (run E n)) sg_Z37 pol_Z37 F_Z37 n args := rfl
theorem sig_slices_IndexFunc_Sint64_int64_eq:E.sig n_Z91 = some sg_Z91 := rfl
theorem run_Z91 (n:Nat) (args:List Dv):run E (n + 1) n_Z91 args = evFn E (mkR (run E n)) sg_Z91 pol_Z91 F_Z91 n args := rfl
theorem sig_slices_Grow_Sint64_int64_eq:E.sig n_Z86 = some sg_Z86 := rfl
theorem sig_cmp_isNaN_int_eq:E.sig n_Z3 = some sg_Z3 := rfl
theorem run_Z3 (n:Nat) (args:List Dv):run E (n + 1) n_Z3 args = evFn E (mkR (run E n)) sg_Z3 pol_Z3 F_Z3 n args := rfl
theorem sig_cmp_Compare_int64_eq:E.sig n_Z1 = some sg_Z1 := rfl
theorem run_Z1 (n:Nat) (args:List Dv):run E (n + 1) n_Z1 args = evFn E (mkR (run E n)) sg_Z1 pol_Z1 F_Z1 n args := rfl
theorem sig_impl_placesOf_eq:E.sig n_Z48 = some sg_Z48 := rfl
theorem run_Z48 (n:Nat) (args:List Dv):run E (n + 1) n_Z48 args = evFn E (mkR (run E n)) sg_Z48 pol_Z48 F_Z48 n args := rfl
theorem sig_impl_powerOf_eq:E.sig n_Z50 = some sg_Z50 := rfl
theorem run_Z50 (n:Nat) (args:List Dv):run E (n + 1) n_Z50 args = evFn E (mkR (run E n)) sg_Z50 pol_Z50 F_Z50 n args := rfl
theorem sig_cmp_isNaN_int64_eq:E.sig n_Z4 = some sg_Z4 := rfl
theorem run_Z4 (n:Nat) (args:List Dv):run E (n + 1) n_Z4 args = evFn E (mkR (run E n)) sg_Z4 pol_Z4 F_Z4 n args := rfl
theorem sig_impl_placesOf_1_eq:E.sig n_Z49 = some sg_Z49 := rfl
theorem run_Z49 (n:Nat) (args:List Dv):run E (n + 1) n_Z49 args = evFn E (mkR (run E n)) sg_Z49 pol_Z49 F_Z49 n args := rfl
@[reducible] noncomputable def eC (R:Run) (q:Pol) (N:Nat) (l:List Nat) (F:Func) := evCode E R q N (sub l (bodyOf F))
@[reducible] noncomputable def kB (R:Run) (q:Pol) (k:Nat) (K:Kt) := kBlk (maskAt R q.blkM k) k K
@[reducible] noncomputable def kS (R:Run) (q:Pol) (k N:Nat) (l:List Nat) (F:Func) (K:Kt) := kSeq (maskAt R q.seqM k) (evCode E R q N (sub l (bodyOf F))) K
@[reducible] noncomputable def kL (R:Run) (q:Pol) (k N:Nat) (l:List Nat) (F:Func) (n:Nat) (K:Kt) := kLoop (evCode E R q N (sub l (bodyOf F))) (maskAt R q.loopM k) n K
@[reducible] noncomputable def lC (R:Run) (q:Pol) (k N:Nat) (l:List Nat) (F:Func) (n:Nat) (s:Ve.St) (K:Kt) := loopC (evCode E R q N (sub l (bodyOf F))) (maskAt R q.loopM k) n s K
end VeT

open Go Go.Proofs Ve
set_option linter.unusedVariables false
set_option maxRecDepth 100000
namespace VeT
@[reducible] noncomputable def q0_0 (R:Run) (N:Nat):=kS R pol_Z124 5 N [1,1,0,1,0,0,1,1] F_Z124
@[reducible] noncomputable def q0_1 (R:Run) (N:Nat):=kS R pol_Z124 14 N [1,1,1] F_Z124
@[reducible] noncomputable def q0_2 (R:Run) (N:Nat):=kS R pol_Z102 11 N [1,1,1,1] F_Z102
@[reducible] noncomputable def q0_3 (R:Run) (N:Nat):=kS R pol_Z135 21 N [1,1,1,1,1,0,1,0,0,1,0,0,1,1,1,1] F_Z135
@[reducible] noncomputable def q0_4 (R:Run) (N:Nat):=kS R pol_Z135 24 N [1,1,1,1,1,1] F_Z135
@[reducible] noncomputable def q0_5 (R:Run) (N:Nat):=kS R pol_Z128 12 N [1,1,1,1,1] F_Z128
@[reducible] noncomputable def q0_6 (R:Run) (N:Nat):=kS R pol_Z111 31 N [1,1,1,1,1,1,1,0,1,0,0,1,0,0,1,1,1,1,1,1,1,1,0,1,0,0,1,1] F_Z111
@[reducible] noncomputable def q0_7 (R:Run) (N:Nat):=kS R pol_Z111 38 N [1,1,1,1,1,1,1,0,1,0,0,1,0,0,1,1,1,1,1,1,1,1,1] F_Z111
@[reducible] noncomputable def q0_8 (R:Run) (N:Nat):=kS R pol_Z111 9 N [1,1,1,1,1,1,1,0,1,0,0,1,1] F_Z111
@[reducible] noncomputable def q0_9 (R:Run) (N:Nat):=kS R pol_Z111 40 N [1,1,1,1,1,1,1,1] F_Z111
@[reducible] noncomputable def q0_10 (R:Run) (N:Nat):=kS R pol_Z111 13 N [1,1,1,1,1,1,1,0,1,0,0,1,0,0,1,1] F_Z111
@[reducible] noncomputable def q0_11 (R:Run) (N:Nat):=kL R pol_Z124 4 N [1,1,0,1,0,0] F_Z124
@[reducible] noncomputable def q0_12 (R:Run) (N:Nat):=kL R pol_Z111 30 N [1,1,1,1,1,1,1,0,1,0,0,1,0,0,1,1,1,1,1,1,1,1,0,1,0,0] F_Z111
@[reducible] noncomputable def q0_13 (R:Run) (N:Nat):=kL R pol_Z111 8 N [1,1,1,1,1,1,1,0,1,0,0] F_Z111
@[reducible] noncomputable def q0_14 (R:Run):=kB R pol_Z111 1
@[reducible] noncomputable def q0_15 (R:Run):=kB R pol_Z111 0
theorem Z68.ev (R:Run) (N:Nat) (a0:(List Int)) (a1:Int):evFn E R sg_Z68 pol_Z68 F_Z68 N [⟨yL,a0⟩,⟨yI,a1⟩] = (bif (decide ((w64 (a1 - (List.length a0:Int))) < (0:Int))) then some ⟨o_Z68,((-1:Int),())⟩ else some ⟨o_Z68,((w64 (a1 - (List.length a0:Int))),())⟩) := by kernel_rfl
noncomputable def Z69.l0 (R:Run) (N n:Nat) (a:vK) (b e:Int):Option Dv := R.w (some ⟨(.c (.d yK a)::(.c (.d yI b)::(zd 3 (.c (.d yI e)::(zd 21 []))))),(zo 29 [])⟩) fun st => lC R pol_Z69 5 N [1,1,1,0,1,0,0] F_Z69 n st (kB R pol_Z69 0 (kS R pol_Z69 10 N [1,1,1,1] F_Z69 (kTop E sg_Z69 F_Z69)))
theorem Z69.l0_succ (R:Run) (hw:R.ok) (N n:Nat) (a:vK) (b c:Int):Z69.l0 R N (n + 1) a b c = (bif (decide (c < (List.length a:Int))) then ((idx? a c).bind fun y4 => ((callT R n_Z68 o_Z68 [⟨yL,(y4,()).1⟩,⟨yI,b⟩]).bind fun r5 => (bif (decide (r5.1 < (0:Int))) then some ⟨o_Z69,((-1:Int),())⟩ else (Z69.l0 R N n a r5.1 (w64 (c + (1:Int))))))) else some ⟨o_Z69,(b,())⟩) := (hw _ _).trans (by kernel_rfl)
theorem Z69.ev (R:Run) (N:Nat) (a0:vK) (a1:Int):evFn E R sg_Z69 pol_Z69 F_Z69 N [⟨yK,a0⟩,⟨yI,a1⟩] = (bif (decide ((w64 (a1 - (List.length a0:Int))) < (0:Int))) then some ⟨o_Z69,((-1:Int),())⟩ else (Z69.l0 R N N a0 (w64 (a1 - (List.length a0:Int))) (0:Int))) := by kernel_rfl
theorem Z67.ev (R:Run) (N:Nat) (a0:vK) (a1:Int):evFn E R sg_Z67 pol_Z67 F_Z67 N [⟨yK,a0⟩,⟨yI,a1⟩] = ((callT R n_Z69 o_Z69 [⟨yK,a0⟩,⟨yI,a1⟩]).bind fun r1 => (bif (decide (r1.1 < (0:Int))) then some ⟨o_Z67,((-1:Int),())⟩ else some ⟨o_Z67,(r1.1,())⟩)) := by kernel_rfl
noncomputable def Z71.l0 (R:Run) (N n:Nat) (a:(List Int)) (b:Int) (e:(List Int)):Option Dv := R.w (some ⟨(.c (.d yL a)::(V.dead::(V.dead::(.c (.arr 7)::(.c (.d yI b)::(zd 17 [])))))),(zo 7 (some (.arr yI e true false false)::(zo 15 [])))⟩) fun st => lC R pol_Z71 3 N [1,1,0,1,0,0] F_Z71 n st (kB R pol_Z71 0 (kS R pol_Z71 6 N [1,1,1] F_Z71 (kTop E sg_Z71 F_Z71)))
theorem Z71.l0_succ (R:Run) (hw:R.ok) (N n:Nat) (a:(List Int)) (b:Int) (c:(List Int)):Z71.l0 R N (n + 1) a b c = (bif (decide (b < (List.length a:Int))) then ((idx? a b).bind fun y4 => ((chk (decide (0 ≤ b) && decide (b < (List.length c:Int)))).bind fun _ => (Z71.l0 R N n a (w64 (b + (1:Int))) (List.set c (Int.toNat b) (y4,()).1)))) else some ⟨o_Z71,(c,())⟩) := (hw _ _).trans (by kernel_rfl)
theorem Z71.ev (R:Run) (N:Nat) (a0:(List Int)):evFn E R sg_Z71 pol_Z71 F_Z71 N [⟨yL,a0⟩] = ((chk (decide (0 ≤ (List.length a0:Int)) && decide ((List.length a0:Int) * 8 ≤ 70368744177664))).bind fun _ => (Z71.l0 R N N a0 (0:Int) (List.replicate (Int.toNat (List.length a0:Int)) (0:Int)))) := by kernel_rfl
noncomputable def Z72.l0 (R:Run) (N n:Nat) (a:vK) (b:Int) (e:vK):Option Dv := R.w (some ⟨(.c (.d yK a)::(V.dead::(V.dead::(.c (.arr 7)::(.c (.d yI b)::(zd 18 [])))))),(zo 7 (some (.arr yL e true false false)::(zo 17 [])))⟩) fun st => lC R pol_Z72 3 N [1,1,0,1,0,0] F_Z72 n st (kB R pol_Z72 0 (kS R pol_Z72 6 N [1,1,1] F_Z72 (kTop E sg_Z72 F_Z72)))
theorem Z72.l0_succ (R:Run) (hw:R.ok) (N n:Nat) (a:vK) (b:Int) (c:vK):Z72.l0 R N (n + 1) a b c = (bif (decide (b < (List.length a:Int))) then ((idx? a b).bind fun y4 => ((callT R n_Z71 o_Z71 [⟨yL,(y4,()).1⟩]).bind fun r5 => ((chk (decide (0 ≤ b) && decide (b < (List.length c:Int)))).bind fun _ => (Z72.l0 R N n a (w64 (b + (1:Int))) (List.set c (Int.toNat b) r5.1))))) else some ⟨o_Z72,(c,())⟩) := (hw _ _).trans (by kernel_rfl)
theorem Z72.ev (R:Run) (N:Nat) (a0:vK):evFn E R sg_Z72 pol_Z72 F_Z72 N [⟨yK,a0⟩] = ((chk (decide (0 ≤ (List.length a0:Int)) && decide ((List.length a0:Int) * 24 ≤ 70368744177664))).bind fun _ => (Z72.l0 R N N a0 (0:Int) (List.replicate (Int.toNat (List.length a0:Int)) ([]:List Int)))) := by kernel_rfl
theorem Z70.ev (R:Run) (N:Nat) (a0:vK):evFn E R sg_Z70 pol_Z70 F_Z70 N [⟨yK,a0⟩] = ((callT R n_Z72 o_Z72 [⟨yK,a0⟩]).bind fun r1 => some ⟨o_Z70,(r1.1,())⟩) := by kernel_rfl
theorem Z100.ev (R:Run) (N:Nat) (a0 a1 a2:Int):evFn E R sg_Z100 pol_Z100 F_Z100 N [⟨yI,a0⟩,⟨yI,a1⟩,⟨yI,a2⟩] = (bif (decide (a0 ≥ a1)) then some ⟨o_Z100,((decide (a0 ≤ a2)),())⟩ else some ⟨o_Z100,(false,())⟩) := by kernel_rfl
noncomputable def Z105.l0 (R:Run) (N n:Nat) (a b:Int):Option Dv := R.w (some ⟨(.c (.d yI a)::(V.dead::(V.dead::(.c (.d yI b)::(zd 14 []))))),(zo 19 [])⟩) fun st => lC R pol_Z105 4 N [1,1,0,1,0,0] F_Z105 n st (kB R pol_Z105 0 (kS R pol_Z105 8 N [1,1,1] F_Z105 (kTop E sg_Z105 F_Z105)))
theorem Z105.l0_succ (R:Run) (hw:R.ok) (N n:Nat) (a b:Int):Z105.l0 R N (n + 1) a b = (bif (decide ((w64 (b * b)) ≤ a)) then ((chk (b != 0)).bind fun _ => (bif ((Int.tmod a b) == (0:Int)) then some ⟨o_Z105,(false,())⟩ else (Z105.l0 R N n a (w64 (b + (1:Int)))))) else some ⟨o_Z105,(true,())⟩) := (hw _ _).trans (by kernel_rfl)
theorem Z105.ev (R:Run) (N:Nat) (a0:Int):evFn E R sg_Z105 pol_Z105 F_Z105 N [⟨yI,a0⟩] = ((callT R n_Z100 o_Z100 [⟨yI,a0⟩,⟨yI,(2:Int)⟩,⟨yI,(251:Int)⟩]).bind fun r1 => (bif (!r1.1) then some ⟨o_Z105,(false,())⟩ else (Z105.l0 R N N a0 (2:Int)))) := by kernel_rfl
noncomputable def Z103.j1 (R:Run) (N a:Nat) (b:(List Int)) (e f g:Int) (h:Bool):Option Dv := R.w (some ⟨(.c (.d yL b)::(.c (.d yI e)::(.c (.d yI f)::(zd 4 (.c (.d yI g)::(zd 29 (.c (.d .bool h)::[]))))))),(zo 41 [])⟩) fun st => eC R pol_Z103 N [1,0,1,0,0,1,0,0,1] F_Z103 st (kB R pol_Z103 1 (kS R pol_Z103 3 N [1,0,1,0,0,1,1] F_Z103 (kL R pol_Z103 2 N [1,0,1,0,0] F_Z103 a (kB R pol_Z103 0 (kS R pol_Z103 6 N [1,1] F_Z103 (kTop E sg_Z103 F_Z103))))))
noncomputable def Z103.l0 (R:Run) (N n:Nat) (a:(List Int)) (b e f:Int):Option Dv := R.w (some ⟨(.c (.d yL a)::(.c (.d yI b)::(.c (.d yI e)::(zd 4 (.c (.d yI f)::(zd 30 [])))))),(zo 41 [])⟩) fun st => lC R pol_Z103 2 N [1,0,1,0,0] F_Z103 n st (kB R pol_Z103 0 (kS R pol_Z103 6 N [1,1] F_Z103 (kTop E sg_Z103 F_Z103)))
theorem Z103.j1_eq (R:Run) (hw:R.ok) (N a:Nat) (b:(List Int)) (c d e:Int) (f:Bool):Z103.j1 R N a b c d e f = (bif f then some ⟨o_Z103,(false,())⟩ else (Z103.l0 R N a b c d (w64 (e + (1:Int))))) := (hw _ _).trans (by kernel_rfl)
theorem Z103.l0_succ (R:Run) (hw:R.ok) (N n:Nat) (a:(List Int)) (b c d:Int):Z103.l0 R N (n + 1) a b c d = (bif (decide (d < (List.length a:Int))) then ((idx? a d).bind fun y5 => ((callT R n_Z100 o_Z100 [⟨yI,(y5,()).1⟩,⟨yI,b⟩,⟨yI,c⟩]).bind fun r6 => (bif (!r6.1) then (Z103.j1 R N n a b c d true) else (bif (decide (d > (0:Int))) then ((idx? a (w64 (d - (1:Int)))).bind fun y16 => ((idx? a d).bind fun y17 => (Z103.j1 R N n a b c d (decide ((y16,()).1 ≥ (y17,()).1))))) else (Z103.j1 R N n a b c d false))))) else some ⟨o_Z103,(true,())⟩) := (hw _ _).trans (by kernel_rfl)
theorem Z103.ev (R:Run) (N:Nat) (a0:(List Int)) (a1 a2:Int):evFn E R sg_Z103 pol_Z103 F_Z103 N [⟨yL,a0⟩,⟨yI,a1⟩,⟨yI,a2⟩] = (Z103.l0 R N N a0 a1 a2 (0:Int)) := by kernel_rfl
theorem Z125.ev (R:Run) (N:Nat) (a0:(List Int)):evFn E R sg_Z125 pol_Z125 F_Z125 N [⟨yL,a0⟩] = ((callT R n_Z100 o_Z100 [⟨yI,(List.length a0:Int)⟩,⟨yI,(1:Int)⟩,⟨yI,(4:Int)⟩]).bind fun r1 => (bif r1.1 then ((callT R n_Z103 o_Z103 [⟨yL,a0⟩,⟨yI,(0:Int)⟩,⟨yI,(9:Int)⟩]).bind fun r2 => some ⟨o_Z125,(r2.1,())⟩) else some ⟨o_Z125,(false,())⟩)) := by kernel_rfl
noncomputable def Z118.l0 (R:Run) (N n:Nat) (a b:(List Int)) (e:Int):Option Dv := R.w (some ⟨(.c (.d yL a)::(.c (.d yL b)::(zd 3 (.c (.d yI e)::(zd 34 []))))),(zo 42 [])⟩) fun st => lC R pol_Z118 4 N [1,1,0,1,0,0] F_Z118 n st (kB R pol_Z118 0 (kS R pol_Z118 8 N [1,1,1] F_Z118 (kTop E sg_Z118 F_Z118)))
theorem Z118.l0_succ (R:Run) (hw:R.ok) (N n:Nat) (a b:(List Int)) (c:Int):Z118.l0 R N (n + 1) a b c = (bif (decide (c < (List.length a:Int))) then ((idx? a c).bind fun y4 => ((idx? b c).bind fun y5 => (bif ((y4,()).1 != (y5,()).1) then ((idx? a c).bind fun y6 => ((idx? b c).bind fun y7 => some ⟨o_Z118,((decide ((y6,()).1 < (y7,()).1)),())⟩)) else (Z118.l0 R N n a b (w64 (c + (1:Int))))))) else some ⟨o_Z118,(false,())⟩) := (hw _ _).trans (by kernel_rfl)
theorem Z118.ev (R:Run) (N:Nat) (a0 a1:(List Int)):evFn E R sg_Z118 pol_Z118 F_Z118 N [⟨yL,a0⟩,⟨yL,a1⟩] = (bif ((List.length a0:Int) != (List.length a1:Int)) then some ⟨o_Z118,((decide ((List.length a0:Int) < (List.length a1:Int))),())⟩ else (Z118.l0 R N N a0 a1 (0:Int))) := by kernel_rfl
theorem Z101.ev (R:Run) (N:Nat) (a0:(List Int)):evFn E R sg_Z101 pol_Z101 F_Z101 N [⟨yL,a0⟩] = ((chk (decide ((List.length ([]:List Int) + List.length a0) * 8 ≤ 70368744177664))).bind fun _ => some ⟨o_Z101,((([]:List Int) ++ a0),())⟩) := by kernel_rfl
theorem Z120.ev (R:Run) (N:Nat) (a0:(List Int)) (a1:Int):evFn E R sg_Z120 pol_Z120 F_Z120 N [⟨yL,a0⟩,⟨yI,a1⟩] = ((chk (decide (0 ≤ a1) && decide (a1 ≤ (List.length a0:Int)))).bind fun _ => ((callT R n_Z101 o_Z101 [⟨yL,(List.take (Int.toNat a1) a0)⟩]).bind fun r1 => ((chk (decide (0 ≤ (w64 (a1 + (1:Int)))) && decide ((w64 (a1 + (1:Int))) ≤ (List.length a0:Int)))).bind fun _ => ((chk (decide ((List.length r1.1 + List.length (List.drop (Int.toNat (w64 (a1 + (1:Int)))) a0)) * 8 ≤ 70368744177664))).bind fun _ => some ⟨o_Z120,((r1.1 ++ (List.drop (Int.toNat (w64 (a1 + (1:Int)))) a0)),())⟩)))) := by kernel_rfl
noncomputable def Z104.l0 (R:Run) (N n:Nat) (a b:(List Int)) (e:Int):Option Dv := R.w (some ⟨(.c (.d yL a)::(.c (.d yL b)::(zd 3 (.c (.d yI e)::(zd 20 []))))),(zo 28 [])⟩) fun st => lC R pol_Z104 4 N [1,1,0,1,0,0] F_Z104 n st (kB R pol_Z104 0 (kS R pol_Z104 8 N [1,1,1] F_Z104 (kTop E sg_Z104 F_Z104)))
theorem Z104.l0_succ (R:Run) (hw:R.ok) (N n:Nat) (a b:(List Int)) (c:Int):Z104.l0 R N (n + 1) a b c = (bif (decide (c < (List.length a:Int))) then ((idx? a c).bind fun y4 => ((idx? b c).bind fun y5 => (bif ((y4,()).1 != (y5,()).1) then some ⟨o_Z104,(false,())⟩ else (Z104.l0 R N n a b (w64 (c + (1:Int))))))) else some ⟨o_Z104,(true,())⟩) := (hw _ _).trans (by kernel_rfl)
theorem Z104.ev (R:Run) (N:Nat) (a0 a1:(List Int)):evFn E R sg_Z104 pol_Z104 F_Z104 N [⟨yL,a0⟩,⟨yL,a1⟩] = (bif ((List.length a0:Int) != (List.length a1:Int)) then some ⟨o_Z104,(false,())⟩ else (Z104.l0 R N N a0 a1 (0:Int))) := by kernel_rfl
noncomputable def Z122.l0 (R:Run) (N n:Nat) (a:(vK × Unit)) (b:(List Int)) (e:Int):Option Dv := R.w (some ⟨(.c (.ip (.cons yK .nil) a 0)::(.c (.d yL b)::(zd 3 (.c (.d yI e)::(zd 19 []))))),(zo 27 [])⟩) fun st => lC R pol_Z122 2 N [1,0,1,0,0] F_Z122 n st (kB R pol_Z122 0 (kS R pol_Z122 6 N [1,1] F_Z122 (kTop E sg_Z122 F_Z122)))
theorem Z122.l0_succ (R:Run) (hw:R.ok) (N n:Nat) (a:(vK × Unit)) (b:(List Int)) (c:Int):Z122.l0 R N (n + 1) a b c = (bif (decide (c < (List.length a.1:Int))) then ((idx? a.1 c).bind fun y4 => ((callT R n_Z104 o_Z104 [⟨yL,(y4,()).1⟩,⟨yL,b⟩]).bind fun r5 => (bif r5.1 then some ⟨o_Z122,(c,())⟩ else (Z122.l0 R N n a b (w64 (c + (1:Int))))))) else some ⟨o_Z122,((-1:Int),())⟩) := (hw _ _).trans (by kernel_rfl)
theorem Z122.ev (R:Run) (N:Nat) (a0:(vK × Unit)) (a1:(List Int)):evFn E R sg_Z122 pol_Z122 F_Z122 N [⟨(.ptr (.cons yK .nil)),a0⟩,⟨yL,a1⟩] = (Z122.l0 R N N a0 a1 (0:Int)) := by kernel_rfl
noncomputable def Z124.j3 (R:Run) (N a b:Nat) (e:(vK × Unit)) (f:Int) (g:(List Int)) (h:Int) (i:Bool):Option Dv := R.w (some ⟨(.c (.ip (.cons yK .nil) e 0)::(V.dead::(V.dead::(.c (.d yI f)::(.c (.d yL g)::(.c (.d yI h)::(zd 50 (.c (.d .bool i)::(zd 8 []))))))))),(zo 66 [])⟩) fun st => eC R pol_Z124 N [1,1,0,1,0,0,1,0,0,1,1,1,0,0,0,1] F_Z124 st (kS R pol_Z124 12 N [1,1,0,1,0,0,1,0,0,1,1,1,0,0,1] F_Z124 (kL R pol_Z124 10 N [1,1,0,1,0,0,1,0,0,1,1,1,0,0] F_Z124 b (kB R pol_Z124 2 (kB R pol_Z124 1 (q0_0 R N (q0_11 R N a (kB R pol_Z124 0 (q0_1 R N (kTop E sg_Z124 F_Z124)))))))))
noncomputable def Z124.l2 (R:Run) (N a n:Nat) (b:(vK × Unit)) (e:Int) (f:(List Int)) (g:Int):Option Dv := R.w (some ⟨(.c (.ip (.cons yK .nil) b 0)::(V.dead::(V.dead::(.c (.d yI e)::(.c (.d yL f)::(.c (.d yI g)::(zd 59 []))))))),(zo 66 [])⟩) fun st => lC R pol_Z124 10 N [1,1,0,1,0,0,1,0,0,1,1,1,0,0] F_Z124 n st (kB R pol_Z124 2 (kB R pol_Z124 1 (q0_0 R N (q0_11 R N a (kB R pol_Z124 0 (q0_1 R N (kTop E sg_Z124 F_Z124)))))))
noncomputable def Z124.j1 (R:Run) (N a:Nat) (b:(vK × Unit)) (e:Int) (f:(List Int)) (g:Bool):Option Dv := R.w (some ⟨(.c (.ip (.cons yK .nil) b 0)::(V.dead::(V.dead::(.c (.d yI e)::(.c (.d yL f)::(zd 42 (.c (.d .bool g)::(zd 17 [])))))))),(zo 66 [])⟩) fun st => eC R pol_Z124 N [1,1,0,1,0,0,1,0,0,1,0,1] F_Z124 st (kS R pol_Z124 9 N [1,1,0,1,0,0,1,0,0,1,1] F_Z124 (kB R pol_Z124 1 (q0_0 R N (q0_11 R N a (kB R pol_Z124 0 (q0_1 R N (kTop E sg_Z124 F_Z124)))))))
noncomputable def Z124.l0 (R:Run) (N n:Nat) (a:(vK × Unit)) (b:Int):Option Dv := R.w (some ⟨(.c (.ip (.cons yK .nil) a 0)::(V.dead::(V.dead::(.c (.d yI b)::(zd 61 []))))),(zo 66 [])⟩) fun st => lC R pol_Z124 4 N [1,1,0,1,0,0] F_Z124 n st (kB R pol_Z124 0 (q0_1 R N (kTop E sg_Z124 F_Z124)))
theorem Z124.j3_eq (R:Run) (hw:R.ok) (N a b:Nat) (c:(vK × Unit)) (d:Int) (e:(List Int)) (f:Int) (g:Bool):Z124.j3 R N a b c d e f g = (bif g then ((callT R n_Z120 o_Z120 [⟨yL,e⟩,⟨yI,f⟩]).bind fun r18 => ((callT R n_Z122 o_Z122 [⟨(.ptr (.cons yK .nil)),c⟩,⟨yL,r18.1⟩]).bind fun r19 => (bif (decide (r19.1 < (0:Int))) then some ⟨o_Z124,(false,())⟩ else (Z124.l2 R N a b c d e (w64 (f + (1:Int))))))) else (Z124.l0 R N a c (w64 (d + (1:Int))))) := (hw _ _).trans (by kernel_rfl)
theorem Z124.l2_succ (R:Run) (hw:R.ok) (N a n:Nat) (b:(vK × Unit)) (c:Int) (d:(List Int)) (e:Int):Z124.l2 R N a (n + 1) b c d e = (bif (decide (e < (List.length d:Int))) then (Z124.j3 R N a n b c d e (decide ((List.length d:Int) > (1:Int)))) else (Z124.j3 R N a n b c d e false)) := (hw _ _).trans (by kernel_rfl)
theorem Z124.j1_eq (R:Run) (hw:R.ok) (N a:Nat) (b:(vK × Unit)) (c:Int) (d:(List Int)) (e:Bool):Z124.j1 R N a b c d e = (bif e then some ⟨o_Z124,(false,())⟩ else (Z124.l2 R N a N b c d (0:Int))) := (hw _ _).trans (by kernel_rfl)
theorem Z124.l0_succ (R:Run) (hw:R.ok) (N n:Nat) (a:(vK × Unit)) (b:Int):Z124.l0 R N (n + 1) a b = (bif (decide (b < (List.length a.1:Int))) then ((idx? a.1 b).bind fun y3 => ((callT R n_Z125 o_Z125 [⟨yL,(y3,()).1⟩]).bind fun r4 => (bif (!r4.1) then (Z124.j1 R N n a b ((y3,()).1) true) else (bif (decide (b > (0:Int))) then ((idx? a.1 (w64 (b - (1:Int)))).bind fun y31 => ((callT R n_Z118 o_Z118 [⟨yL,(y31,()).1⟩,⟨yL,(y3,()).1⟩]).bind fun r32 => (Z124.j1 R N n a b ((y3,()).1) (!r32.1)))) else (Z124.j1 R N n a b ((y3,()).1) false))))) else some ⟨o_Z124,(true,())⟩) := (hw _ _).trans (by kernel_rfl)
theorem Z124.ev (R:Run) (N:Nat) (a0:(vK × Unit)):evFn E R sg_Z124 pol_Z124 F_Z124 N [⟨(.ptr (.cons yK .nil)),a0⟩] = (bif (decide ((List.length a0.1:Int) > (48:Int))) then some ⟨o_Z124,(false,())⟩ else (Z124.l0 R N N a0 (0:Int))) := by kernel_rfl
noncomputable def Z140.l0 (R:Run) (N n:Nat) (a:(vK × Unit)) (b:Int) (e:(List Int)):Option Dv := R.w (some ⟨(.c (.ip (.cons yK .nil) a 0)::(V.dead::(V.dead::(.c (.arr 5)::(.c (.d yI b)::(zd 32 [])))))),(zo 5 (some (.arr yI e true false false)::(zo 32 [])))⟩) fun st => lC R pol_Z140 3 N [1,1,0,1,0,0] F_Z140 n st (kB R pol_Z140 0 (kS R pol_Z140 7 N [1,1,1] F_Z140 (kTop E sg_Z140 F_Z140)))
theorem Z140.l0_succ (R:Run) (hw:R.ok) (N n:Nat) (a:(vK × Unit)) (b:Int) (c:(List Int)):Z140.l0 R N (n + 1) a b c = (bif (decide (b < (List.length a.1:Int))) then ((idx? a.1 b).bind fun y4 => (bif ((List.length (y4,()).1:Int) == (1:Int)) then ((idx? a.1 b).bind fun y5 => ((idx? (y5,()).1 (0:Int)).bind fun y6 => ((chk (decide ((List.length c + List.length [(y6,()).1]) * 8 ≤ 70368744177664))).bind fun _ => (Z140.l0 R N n a (w64 (b + (1:Int))) (c ++ [(y6,()).1]))))) else (Z140.l0 R N n a (w64 (b + (1:Int))) c))) else some ⟨o_Z140,(c,())⟩) := (hw _ _).trans (by kernel_rfl)
theorem Z140.ev (R:Run) (N:Nat) (a0:(vK × Unit)):evFn E R sg_Z140 pol_Z140 F_Z140 N [⟨(.ptr (.cons yK .nil)),a0⟩] = (Z140.l0 R N N a0 (0:Int) ([]:List Int)) := by kernel_rfl
noncomputable def Z139.l0 (R:Run) (N n:Nat) (a b:(List Int)) (e f:Int):Option Dv := R.w (some ⟨(.c (.d yL a)::(.c (.d yL b)::(.c (.d yI e)::(zd 4 (.c (.d yI f)::(zd 16 [])))))),(zo 27 [])⟩) fun st => lC R pol_Z139 2 N [1,0,1,0,0] F_Z139 n st (kB R pol_Z139 0 (kS R pol_Z139 6 N [1,1] F_Z139 (kTop E sg_Z139 F_Z139)))
theorem Z139.l0_succ (R:Run) (hw:R.ok) (N n:Nat) (a b:(List Int)) (c d:Int):Z139.l0 R N (n + 1) a b c d = (bif (decide (d < (List.length b:Int))) then ((idx? a d).bind fun y5 => (bif ((y5,()).1 == c) then ((idx? b d).bind fun y6 => some ⟨o_Z139,((y6,()).1,())⟩) else (Z139.l0 R N n a b c (w64 (d + (1:Int)))))) else some ⟨o_Z139,((-1:Int),())⟩) := (hw _ _).trans (by kernel_rfl)
theorem Z139.ev (R:Run) (N:Nat) (a0 a1:(List Int)) (a2:Int):evFn E R sg_Z139 pol_Z139 F_Z139 N [⟨yL,a0⟩,⟨yL,a1⟩,⟨yI,a2⟩] = (Z139.l0 R N N a0 a1 a2 (0:Int)) := by kernel_rfl
noncomputable def Z102.j2 (R:Run) (N a:Nat) (b:(List Int)) (e:Int) (f:Bool) (g:Int) (h:(List Int)):Option Dv := R.w (some ⟨(.c (.d yL b)::(.c (.d yI e)::(zd 3 (.c (.arr 8)::(.c (.d .bool f)::(.c (.d yI g)::(zd 41 []))))))),(zo 8 (some (.arr yI h true false false)::(zo 42 [])))⟩) fun st => eC R pol_Z102 N [1,1,1,0,1,0,0,1,0,0,1] F_Z102 st (kB R pol_Z102 1 (kS R pol_Z102 5 N [1,1,1,0,1,0,0,1,1] F_Z102 (kL R pol_Z102 4 N [1,1,1,0,1,0,0] F_Z102 a (kB R pol_Z102 0 (q0_2 R N (kTop E sg_Z102 F_Z102))))))
noncomputable def Z102.j1 (R:Run) (N a:Nat) (b:(List Int)) (e:Int) (f:Bool) (g:Int) (h:Bool) (i:(List Int)):Option Dv := R.w (some ⟨(.c (.d yL b)::(.c (.d yI e)::(zd 3 (.c (.arr 8)::(.c (.d .bool f)::(.c (.d yI g)::(zd 16 (.c (.d .bool h)::(zd 24 []))))))))),(zo 8 (some (.arr yI i true false false)::(zo 42 [])))⟩) fun st => eC R pol_Z102 N [1,1,1,0,1,0,0,1,0,0,0,1] F_Z102 st (kS R pol_Z102 10 N [1,1,1,0,1,0,0,1,0,0,1] F_Z102 (kB R pol_Z102 1 (kS R pol_Z102 5 N [1,1,1,0,1,0,0,1,1] F_Z102 (kL R pol_Z102 4 N [1,1,1,0,1,0,0] F_Z102 a (kB R pol_Z102 0 (q0_2 R N (kTop E sg_Z102 F_Z102)))))))
noncomputable def Z102.l0 (R:Run) (N n:Nat) (a:(List Int)) (b:Int) (e:Bool) (f:Int) (g:(List Int)):Option Dv := R.w (some ⟨(.c (.d yL a)::(.c (.d yI b)::(zd 3 (.c (.arr 8)::(.c (.d .bool e)::(.c (.d yI f)::(zd 41 []))))))),(zo 8 (some (.arr yI g true false false)::(zo 42 [])))⟩) fun st => lC R pol_Z102 4 N [1,1,1,0,1,0,0] F_Z102 n st (kB R pol_Z102 0 (q0_2 R N (kTop E sg_Z102 F_Z102)))
theorem Z102.j2_eq (R:Run) (hw:R.ok) (N a:Nat) (b:(List Int)) (c:Int) (d:Bool) (e:Int) (f:(List Int)):Z102.j2 R N a b c d e f = ((idx? b e).bind fun y19 => ((chk (decide ((List.length f + List.length [(y19,()).1]) * 8 ≤ 70368744177664))).bind fun _ => (Z102.l0 R N a b c d (w64 (e + (1:Int))) (f ++ [(y19,()).1])))) := (hw _ _).trans (by kernel_rfl)
theorem Z102.j1_eq (R:Run) (hw:R.ok) (N a:Nat) (b:(List Int)) (c:Int) (d:Bool) (e:Int) (f:Bool) (g:(List Int)):Z102.j1 R N a b c d e f g = (bif f then ((idx? b e).bind fun y13 => (bif (decide ((y13,()).1 > c)) then ((chk (decide ((List.length g + List.length [c]) * 8 ≤ 70368744177664))).bind fun _ => (Z102.j2 R N a b c true e (g ++ [c]))) else (Z102.j2 R N a b c true e g))) else (Z102.j2 R N a b c d e g)) := (hw _ _).trans (by kernel_rfl)
theorem Z102.l0_succ (R:Run) (hw:R.ok) (N n:Nat) (a:(List Int)) (b:Int) (c:Bool) (d:Int) (e:(List Int)):Z102.l0 R N (n + 1) a b c d e = (bif (decide (d < (List.length a:Int))) then (bif (!c) then ((idx? a d).bind fun y6 => (Z102.j1 R N n a b c d (decide ((y6,()).1 ≥ b)) e)) else (Z102.j1 R N n a b c d false e)) else (bif (!c) then ((chk (decide ((List.length e + List.length [b]) * 8 ≤ 70368744177664))).bind fun _ => some ⟨o_Z102,((e ++ [b]),())⟩) else some ⟨o_Z102,(e,())⟩)) := (hw _ _).trans (by kernel_rfl)
theorem Z102.ev (R:Run) (N:Nat) (a0:(List Int)) (a1:Int):evFn E R sg_Z102 pol_Z102 F_Z102 N [⟨yL,a0⟩,⟨yI,a1⟩] = (Z102.l0 R N N a0 a1 false (0:Int) ([]:List Int)) := by kernel_rfl
noncomputable def Z137.l0 (R:Run) (N n:Nat) (a b e f:(List Int)) (g:Int):Option Dv := R.w (some ⟨(.c (.d yL a)::(.c (.d yL b)::(.c (.d yL e)::(zd 5 (.c (.d yL f)::(.c (.d yI g)::(zd 21 []))))))),(zo 34 [])⟩) fun st => lC R pol_Z137 3 N [1,1,0,1,0,0] F_Z137 n st (kB R pol_Z137 0 (kS R pol_Z137 9 N [1,1,1] F_Z137 (kTop E sg_Z137 F_Z137)))
theorem Z137.l0_succ (R:Run) (hw:R.ok) (N n:Nat) (a b c d:(List Int)) (e:Int):Z137.l0 R N (n + 1) a b c d e = (bif (decide (e < (List.length c:Int))) then ((idx? c e).bind fun y6 => ((callT R n_Z139 o_Z139 [⟨yL,a⟩,⟨yL,b⟩,⟨yI,(y6,()).1⟩]).bind fun r7 => (bif (decide (r7.1 < (0:Int))) then some ⟨o_Z137,(([]:List Int),false,())⟩ else ((callT R n_Z102 o_Z102 [⟨yL,d⟩,⟨yI,r7.1⟩]).bind fun r8 => (Z137.l0 R N n a b c r8.1 (w64 (e + (1:Int)))))))) else some ⟨o_Z137,(d,true,())⟩) := (hw _ _).trans (by kernel_rfl)
theorem Z137.ev (R:Run) (N:Nat) (a0 a1 a2:(List Int)):evFn E R sg_Z137 pol_Z137 F_Z137 N [⟨yL,a0⟩,⟨yL,a1⟩,⟨yL,a2⟩] = (Z137.l0 R N N a0 a1 a2 ([]:List Int) (0:Int)) := by kernel_rfl
noncomputable def Z136.j1 (R:Run) (N a:Nat) (b e:(vK × Unit)) (f g:(List Int)) (h:Int) (i:Bool):Option Dv := R.w (some ⟨(.c (.ip (.cons yK .nil) b 0)::(.c (.ip (.cons yK .nil) e 0)::(.c (.d yL f)::(.c (.d yL g)::(zd 5 (.c (.d yI h)::(zd 30 (.c (.d .bool i)::[])))))))),(zo 45 [])⟩) fun st => eC R pol_Z136 N [1,0,1,0,0,1,0,0,1,1] F_Z136 st (kB R pol_Z136 1 (kS R pol_Z136 3 N [1,0,1,0,0,1,1] F_Z136 (kL R pol_Z136 2 N [1,0,1,0,0] F_Z136 a (kB R pol_Z136 0 (kS R pol_Z136 7 N [1,1] F_Z136 (kTop E sg_Z136 F_Z136))))))
noncomputable def Z136.l0 (R:Run) (N n:Nat) (a b:(vK × Unit)) (e f:(List Int)) (g:Int):Option Dv := R.w (some ⟨(.c (.ip (.cons yK .nil) a 0)::(.c (.ip (.cons yK .nil) b 0)::(.c (.d yL e)::(.c (.d yL f)::(zd 5 (.c (.d yI g)::(zd 31 []))))))),(zo 45 [])⟩) fun st => lC R pol_Z136 2 N [1,0,1,0,0] F_Z136 n st (kB R pol_Z136 0 (kS R pol_Z136 7 N [1,1] F_Z136 (kTop E sg_Z136 F_Z136)))
theorem Z136.j1_eq (R:Run) (hw:R.ok) (N a:Nat) (b c:(vK × Unit)) (d e:(List Int)) (f:Int) (g:Bool):Z136.j1 R N a b c d e f g = (bif g then some ⟨o_Z136,(false,())⟩ else (Z136.l0 R N a b c d e (w64 (f + (1:Int))))) := (hw _ _).trans (by kernel_rfl)
theorem Z136.l0_succ (R:Run) (hw:R.ok) (N n:Nat) (a b:(vK × Unit)) (c d:(List Int)) (e:Int):Z136.l0 R N (n + 1) a b c d e = (bif (decide (e < (List.length a.1:Int))) then ((idx? a.1 e).bind fun y6 => ((callT R n_Z137 o_Z137 [⟨yL,c⟩,⟨yL,d⟩,⟨yL,(y6,()).1⟩]).bind fun r7 => (bif r7.2.1 then ((callT R n_Z122 o_Z122 [⟨(.ptr (.cons yK .nil)),b⟩,⟨yL,r7.1⟩]).bind fun r8 => (Z136.j1 R N n a b c d e (decide (r8.1 < (0:Int))))) else (Z136.j1 R N n a b c d e false)))) else some ⟨o_Z136,(true,())⟩) := (hw _ _).trans (by kernel_rfl)
theorem Z136.ev (R:Run) (N:Nat) (a0 a1:(vK × Unit)) (a2 a3:(List Int)):evFn E R sg_Z136 pol_Z136 F_Z136 N [⟨(.ptr (.cons yK .nil)),a0⟩,⟨(.ptr (.cons yK .nil)),a1⟩,⟨yL,a2⟩,⟨yL,a3⟩] = (Z136.l0 R N N a0 a1 a2 a3 (0:Int)) := by kernel_rfl
noncomputable def Z138.l0 (R:Run) (N n:Nat) (a b:(vK × Unit)) (e f:(List Int)) (g:Int):Option Dv := R.w (some ⟨(.c (.ip (.cons yK .nil) a 0)::(.c (.ip (.cons yK .nil) b 0)::(.c (.d yL e)::(zd 4 (.c (.d yL f)::(.c (.d yI g)::(zd 26 []))))))),(zo 38 [])⟩) fun st => lC R pol_Z138 3 N [1,1,0,1,0,0] F_Z138 n st (kB R pol_Z138 0 (kS R pol_Z138 7 N [1,1,1] F_Z138 (kTop E sg_Z138 F_Z138)))
theorem Z138.l0_succ (R:Run) (hw:R.ok) (N n:Nat) (a b:(vK × Unit)) (c d:(List Int)) (e:Int):Z138.l0 R N (n + 1) a b c d e = (bif (decide (e < (List.length c:Int))) then ((idx? c e).bind fun y7 => ((callT R n_Z100 o_Z100 [⟨yI,(y7,()).1⟩,⟨yI,(0:Int)⟩,⟨yI,(9:Int)⟩]).bind fun r8 => (bif (!r8.1) then some ⟨o_Z138,(false,())⟩ else (Z138.l0 R N n a b c d (w64 (e + (1:Int))))))) else (bif ((List.length c:Int) == (List.length d:Int)) then ((callT R n_Z136 o_Z136 [⟨(.ptr (.cons yK .nil)),a⟩,⟨(.ptr (.cons yK .nil)),b⟩,⟨yL,d⟩,⟨yL,c⟩]).bind fun r14 => some ⟨o_Z138,(r14.1,())⟩) else some ⟨o_Z138,(false,())⟩)) := (hw _ _).trans (by kernel_rfl)
theorem Z138.ev (R:Run) (N:Nat) (a0 a1:(vK × Unit)) (a2:(List Int)):evFn E R sg_Z138 pol_Z138 F_Z138 N [⟨(.ptr (.cons yK .nil)),a0⟩,⟨(.ptr (.cons yK .nil)),a1⟩,⟨yL,a2⟩] = ((callT R n_Z140 o_Z140 [⟨(.ptr (.cons yK .nil)),a0⟩]).bind fun r1 => (Z138.l0 R N N a0 a1 a2 r1.1 (0:Int))) := by kernel_rfl
noncomputable def Z133.j0 (R:Run) (N:Nat) (a b:(vK × Unit)) (e:(List Int)) (f:Bool):Option Dv := R.w (some ⟨(.c (.ip (.cons yK .nil) a 0)::(.c (.ip (.cons yK .nil) b 0)::(.c (.d yL e)::(zd 11 (.c (.d .bool f)::(zd 5 [])))))),(zo 23 [])⟩) fun st => eC R pol_Z133 N [1,0,1] F_Z133 st (kS R pol_Z133 3 N [1,1] F_Z133 (kTop E sg_Z133 F_Z133))
theorem Z133.j0_eq (R:Run) (hw:R.ok) (N:Nat) (a b:(vK × Unit)) (c:(List Int)) (d:Bool):Z133.j0 R N a b c d = (bif d then some ⟨o_Z133,((1:Int),())⟩ else ((callT R n_Z138 o_Z138 [⟨(.ptr (.cons yK .nil)),a⟩,⟨(.ptr (.cons yK .nil)),b⟩,⟨yL,c⟩]).bind fun r6 => (bif (!r6.1) then some ⟨o_Z133,((7:Int),())⟩ else some ⟨o_Z133,((0:Int),())⟩))) := (hw _ _).trans (by kernel_rfl)
theorem Z133.ev (R:Run) (N:Nat) (a0 a1:(vK × Unit)) (a2:(List Int)):evFn E R sg_Z133 pol_Z133 F_Z133 N [⟨(.ptr (.cons yK .nil)),a0⟩,⟨(.ptr (.cons yK .nil)),a1⟩,⟨yL,a2⟩] = ((callT R n_Z124 o_Z124 [⟨(.ptr (.cons yK .nil)),a0⟩]).bind fun r1 => (bif (!r1.1) then (Z133.j0 R N a0 a1 a2 true) else ((callT R n_Z124 o_Z124 [⟨(.ptr (.cons yK .nil)),a1⟩]).bind fun r7 => (Z133.j0 R N a0 a1 a2 (!r7.1))))) := by kernel_rfl
theorem Z98.ev (R:Run) (N:Nat) (a0:Int):evFn E R sg_Z98 pol_Z98 F_Z98 N [⟨yI,a0⟩] = ((callT R n_Z105 o_Z105 [⟨yI,a0⟩]).bind fun r1 => some ⟨o_Z98,(r1.1,())⟩) := by kernel_rfl
theorem Z119.ev (R:Run) (N:Nat) (a0:Int):evFn E R sg_Z119 pol_Z119 F_Z119 N [⟨yI,a0⟩] = ((callT R n_Z100 o_Z100 [⟨yI,a0⟩,⟨yI,(0:Int)⟩,⟨yI,(3:Int)⟩]).bind fun r1 => some ⟨o_Z119,(r1.1,())⟩) := by kernel_rfl
noncomputable def Z123.l0 (R:Run) (N n:Nat) (a:(vK × Unit)) (b e:Int) (f:(List Int)):Option Dv := R.w (some ⟨(.c (.ip (.cons yK .nil) a 0)::(.c (.d yI b)::(zd 3 (.c (.arr 7)::(.c (.d yI e)::(zd 26 [])))))),(zo 7 (some (.arr yI f true false false)::(zo 27 [])))⟩) fun st => lC R pol_Z123 3 N [1,1,0,1,0,0] F_Z123 n st (kB R pol_Z123 0 (kS R pol_Z123 7 N [1,1,1] F_Z123 (kTop E sg_Z123 F_Z123)))
theorem Z123.l0_succ (R:Run) (hw:R.ok) (N n:Nat) (a:(vK × Unit)) (b c:Int) (d:(List Int)):Z123.l0 R N (n + 1) a b c d = (bif (decide (c < (List.length a.1:Int))) then ((idx? a.1 c).bind fun y5 => (bif ((List.length (y5,()).1:Int) == (w64 (b + (1:Int)))) then ((chk (decide ((List.length d + List.length [c]) * 8 ≤ 70368744177664))).bind fun _ => (Z123.l0 R N n a b (w64 (c + (1:Int))) (d ++ [c]))) else (Z123.l0 R N n a b (w64 (c + (1:Int))) d))) else some ⟨o_Z123,(d,())⟩) := (hw _ _).trans (by kernel_rfl)
theorem Z123.ev (R:Run) (N:Nat) (a0:(vK × Unit)) (a1:Int):evFn E R sg_Z123 pol_Z123 F_Z123 N [⟨(.ptr (.cons yK .nil)),a0⟩,⟨yI,a1⟩] = (Z123.l0 R N N a0 a1 (0:Int) ([]:List Int)) := by kernel_rfl
noncomputable def Z126.j1 (R:Run) (N:Nat) (a:Bool):Option Dv := R.w (some ⟨(zd 38 (.c (.d .bool a)::[])),(zo 42 [])⟩) fun st => eC R pol_Z126 N [1,1,1,0,1] F_Z126 st (kS R pol_Z126 7 N [1,1,1,1] F_Z126 (kTop E sg_Z126 F_Z126))
noncomputable def Z126.j0 (R:Run) (N:Nat) (a:(vK × Unit)) (b:Int) (e:Bool):Option Dv := R.w (some ⟨(.c (.ip (.cons yK .nil) a 0)::(.c (.d yI b)::(zd 12 (.c (.d .bool e)::(zd 24 []))))),(zo 42 [])⟩) fun st => eC R pol_Z126 N [1,0,1] F_Z126 st (kS R pol_Z126 3 N [1,1] F_Z126 (kTop E sg_Z126 F_Z126))
theorem Z126.j1_eq (R:Run) (hw:R.ok) (N:Nat) (a:Bool):Z126.j1 R N a = (bif a then some ⟨o_Z126,((5:Int),())⟩ else some ⟨o_Z126,((0:Int),())⟩) := (hw _ _).trans (by kernel_rfl)
theorem Z126.j0_eq (R:Run) (hw:R.ok) (N:Nat) (a:(vK × Unit)) (b:Int) (c:Bool):Z126.j0 R N a b c = (bif c then some ⟨o_Z126,((1:Int),())⟩ else ((callT R n_Z119 o_Z119 [⟨yI,b⟩]).bind fun r5 => (bif (!r5.1) then some ⟨o_Z126,((2:Int),())⟩ else ((callT R n_Z123 o_Z123 [⟨(.ptr (.cons yK .nil)),a⟩,⟨yI,b⟩]).bind fun r6 => (bif (decide ((List.length r6.1:Int) > (32:Int))) then (Z126.j1 R N true) else ((callT R n_Z123 o_Z123 [⟨(.ptr (.cons yK .nil)),a⟩,⟨yI,(w64 (b - (1:Int)))⟩]).bind fun r8 => (bif (decide ((List.length r8.1:Int) > (32:Int))) then (Z126.j1 R N true) else ((callT R n_Z123 o_Z123 [⟨(.ptr (.cons yK .nil)),a⟩,⟨yI,(w64 (b + (1:Int)))⟩]).bind fun r10 => (Z126.j1 R N (decide ((List.length r10.1:Int) > (32:Int)))))))))))) := (hw _ _).trans (by kernel_rfl)
theorem Z126.ev (R:Run) (N:Nat) (a0:(vK × Unit)) (a1 a2:Int):evFn E R sg_Z126 pol_Z126 F_Z126 N [⟨(.ptr (.cons yK .nil)),a0⟩,⟨yI,a1⟩,⟨yI,a2⟩] = ((callT R n_Z124 o_Z124 [⟨(.ptr (.cons yK .nil)),a0⟩]).bind fun r1 => (bif (!r1.1) then (Z126.j0 R N a0 a1 true) else ((callT R n_Z98 o_Z98 [⟨yI,a2⟩]).bind fun r12 => (Z126.j0 R N a0 a1 (!r12.1))))) := by kernel_rfl
theorem Z113.ev (R:Run) (N:Nat) (a0 a1 a2:Int):evFn E R sg_Z113 pol_Z113 F_Z113 N [⟨yI,a0⟩,⟨yI,a1⟩,⟨yI,a2⟩] = ((chk (decide (0 ≤ (w64 (a1 * a2))) && decide ((w64 (a1 * a2)) * 8 ≤ 70368744177664))).bind fun _ => some ⟨o_Z113,(a0,a1,a2,(List.replicate (Int.toNat (w64 (a1 * a2))) (0:Int)),())⟩) := by kernel_rfl
theorem Z134.ev (R:Run) (N:Nat) (a0 a1:(vK × Unit)) (a2:(List Int)) (a3:Int):evFn E R sg_Z134 pol_Z134 F_Z134 N [⟨(.ptr (.cons yK .nil)),a0⟩,⟨(.ptr (.cons yK .nil)),a1⟩,⟨yL,a2⟩,⟨yI,a3⟩] = ((idx? a0.1 a3).bind fun y1 => ((callT R n_Z140 o_Z140 [⟨(.ptr (.cons yK .nil)),a0⟩]).bind fun r2 => ((callT R n_Z137 o_Z137 [⟨yL,r2.1⟩,⟨yL,a2⟩,⟨yL,(y1,()).1⟩]).bind fun r3 => ((callT R n_Z122 o_Z122 [⟨(.ptr (.cons yK .nil)),a1⟩,⟨yL,r3.1⟩]).bind fun r4 => some ⟨o_Z134,(r4.1,())⟩)))) := by kernel_rfl
theorem Z130.ev (R:Run) (N:Nat) (a0 a1:Int):evFn E R sg_Z130 pol_Z130 F_Z130 N [⟨yI,a0⟩,⟨yI,a1⟩] = (bif ((Int.tmod a0 (2:Int)) == (0:Int)) then ((chk (a1 != 0)).bind fun _ => some ⟨o_Z130,((Int.tmod (1:Int) a1),())⟩) else some ⟨o_Z130,((w64 (a1 - (1:Int))),())⟩) := by kernel_rfl
noncomputable def Z135.l2 (R:Run) (N a b n:Nat) (e f:(vK × Unit)) (g:(List Int)) (h:Int) (i j k:(List Int)) (l:Int) (m:(List Int)) (o p q r s t u v x y:Int) (z a0:(List Int)):Option Dv := R.w (some ⟨(.c (.ip (.cons yK .nil) e 0)::(.c (.ip (.cons yK .nil) f 0)::(.c (.d yL g)::(V.dead::(.c (.d yI h)::(zd 5 (.c (.box 10 0)::(.c (.d yL i)::(.c (.d yL j)::(.c (.d yL k)::(.c (.box 14 0)::(.c (.d yI l)::(.c (.d yL m)::(.c (.arr 53)::(.c (.d yI o)::(.c (.d yI p)::(.c (.d yI q)::(.c (.d yI r)::(zd 99 []))))))))))))))))))),(zo 10 (some (.box [.d yI s,.d yI t,.d yI u,.nils yI] false false)::(zo 3 (some (.box [.d yI v,.d yI x,.d yI y,.arr 126] false false)::(zo 38 (some (.arr yI z true false false)::(zo 72 (some (.arr yI a0 true false false)::[]))))))))⟩) fun st => lC R pol_Z135 16 N [1,1,1,1,1,0,1,0,0,1,0,0,1,1,1,0,1,0,0,1,0,0,1,0,1,0,0] F_Z135 n st (kB R pol_Z135 4 (kS R pol_Z135 20 N [1,1,1,1,1,0,1,0,0,1,0,0,1,1,1,0,1,0,0,1,0,0,1,1] F_Z135 (kB R pol_Z135 3 (kS R pol_Z135 13 N [1,1,1,1,1,0,1,0,0,1,0,0,1,1,1,0,1,0,0,1,1] F_Z135 (kL R pol_Z135 12 N [1,1,1,1,1,0,1,0,0,1,0,0,1,1,1,0,1,0,0] F_Z135 b (kB R pol_Z135 2 (q0_3 R N (kB R pol_Z135 1 (kS R pol_Z135 7 N [1,1,1,1,1,0,1,0,0,1,1] F_Z135 (kL R pol_Z135 6 N [1,1,1,1,1,0,1,0,0] F_Z135 a (kB R pol_Z135 0 (q0_4 R N (kTop E sg_Z135 F_Z135)))))))))))))
noncomputable def Z135.l1 (R:Run) (N a n:Nat) (b e:(vK × Unit)) (f:(List Int)) (g:Int) (h i j:(List Int)) (k:Int) (l:(List Int)) (m o p q r s t u:Int) (v x:(List Int)):Option Dv := R.w (some ⟨(.c (.ip (.cons yK .nil) b 0)::(.c (.ip (.cons yK .nil) e 0)::(.c (.d yL f)::(V.dead::(.c (.d yI g)::(zd 5 (.c (.box 10 0)::(.c (.d yL h)::(.c (.d yL i)::(.c (.d yL j)::(.c (.box 14 0)::(.c (.d yI k)::(.c (.d yL l)::(.c (.arr 53)::(.c (.d yI m)::(.c (.d yI o)::(zd 101 []))))))))))))))))),(zo 10 (some (.box [.d yI p,.d yI q,.d yI r,.nils yI] false false)::(zo 3 (some (.box [.d yI s,.d yI t,.d yI u,.arr 126] false false)::(zo 38 (some (.arr yI v true false false)::(zo 72 (some (.arr yI x true false false)::[]))))))))⟩) fun st => lC R pol_Z135 12 N [1,1,1,1,1,0,1,0,0,1,0,0,1,1,1,0,1,0,0] F_Z135 n st (kB R pol_Z135 2 (q0_3 R N (kB R pol_Z135 1 (kS R pol_Z135 7 N [1,1,1,1,1,0,1,0,0,1,1] F_Z135 (kL R pol_Z135 6 N [1,1,1,1,1,0,1,0,0] F_Z135 a (kB R pol_Z135 0 (q0_4 R N (kTop E sg_Z135 F_Z135))))))))
noncomputable def Z135.l0 (R:Run) (N n:Nat) (a b:(vK × Unit)) (e:(List Int)) (f:Int) (g h i:(List Int)) (j k l m o p q:Int) (r:(List Int)):Option Dv := R.w (some ⟨(.c (.ip (.cons yK .nil) a 0)::(.c (.ip (.cons yK .nil) b 0)::(.c (.d yL e)::(V.dead::(.c (.d yI f)::(zd 5 (.c (.box 10 0)::(.c (.d yL g)::(.c (.d yL h)::(.c (.d yL i)::(.c (.box 14 0)::(.c (.d yI j)::(zd 105 []))))))))))))),(zo 10 (some (.box [.d yI k,.d yI l,.d yI m,.nils yI] false false)::(zo 3 (some (.box [.d yI o,.d yI p,.d yI q,.arr 126] false false)::(zo 111 (some (.arr yI r true false false)::[]))))))⟩) fun st => lC R pol_Z135 6 N [1,1,1,1,1,0,1,0,0] F_Z135 n st (kB R pol_Z135 0 (q0_4 R N (kTop E sg_Z135 F_Z135)))
theorem Z135.l2_succ (R:Run) (hw:R.ok) (N a b n:Nat) (c d:(vK × Unit)) (e:(List Int)) (f:Int) (g h i:(List Int)) (j:Int) (k:(List Int)) (l m o p q r s t u v:Int) (w x:(List Int)):Z135.l2 R N a b (n + 1) c d e f g h i j k l m o p q r s t u v w x = (bif (decide (p < (List.length w:Int))) then ((chk (decide (0 ≤ p) && decide (p < (List.length w:Int)))).bind fun _ => (Option.bind (w)[(Int.toNat p)]? fun y64 => (bif (decide (y64 > o)) then (Z135.l2 R N a b n c d e f g h i j k (w64 (l + (1:Int))) m o (w64 (p + (1:Int))) q r s t u v w x) else (Z135.l2 R N a b n c d e f g h i j k l m o (w64 (p + (1:Int))) q r s t u v w x)))) else ((chk (decide ((List.length w + List.length [o]) * 8 ≤ 70368744177664))).bind fun _ => (Z135.l1 R N a b c d e f g h i j k l (w64 (m + (1:Int))) q r s t u v (w ++ [o]) x))) := (hw _ _).trans (by kernel_rfl)
theorem Z135.l1_succ (R:Run) (hw:R.ok) (N a n:Nat) (b c:(vK × Unit)) (d:(List Int)) (e:Int) (f g h:(List Int)) (i:Int) (j:(List Int)) (k l m o p q r s:Int) (t u:(List Int)):Z135.l1 R N a (n + 1) b c d e f g h i j k l m o p q r s t u = (bif (decide (l < (List.length j:Int))) then ((idx? j l).bind fun y41 => ((callT R n_Z139 o_Z139 [⟨yL,h⟩,⟨yL,d⟩,⟨yI,(y41,()).1⟩]).bind fun r42 => (Z135.l2 R N a n N b c d e f g h i j k l r42.1 (0:Int) m o p q r s t u))) else ((idx? f i).bind fun y126 => ((callT R n_Z134 o_Z134 [⟨(.ptr (.cons yK .nil)),b⟩,⟨(.ptr (.cons yK .nil)),c⟩,⟨yL,d⟩,⟨yI,(y126,()).1⟩]).bind fun r127 => ((idx? c.1 r127.1).bind fun y128 => (bif ((List.length (y128,()).1:Int) == (List.length j:Int)) then ((idx? g (0:Int)).bind fun y129 => ((callT R n_Z130 o_Z130 [⟨yI,k⟩,⟨yI,e⟩]).bind fun r130 => ((chk (decide (0 ≤ (w64 ((w64 ((w64 (r127.1 - (y129,()).1)) * s)) + i))) && decide ((w64 ((w64 ((w64 (r127.1 - (y129,()).1)) * s)) + i)) < (List.length u:Int)))).bind fun _ => (Z135.l0 R N a b c d e f g h (w64 (i + (1:Int))) m o p q r s (List.set u (Int.toNat (w64 ((w64 ((w64 (r127.1 - (y129,()).1)) * s)) + i))) r130.1))))) else (Z135.l0 R N a b c d e f g h (w64 (i + (1:Int))) m o p q r s u)))))) := (hw _ _).trans (by kernel_rfl)
theorem Z135.l0_succ (R:Run) (hw:R.ok) (N n:Nat) (a b:(vK × Unit)) (c:(List Int)) (d:Int) (e f g:(List Int)) (h i j k l m o:Int) (p:(List Int)):Z135.l0 R N (n + 1) a b c d e f g h i j k l m o p = (bif (decide (h < (List.length e:Int))) then ((idx? e h).bind fun y20 => ((idx? a.1 (y20,()).1).bind fun y21 => (Z135.l1 R N n N a b c d e f g h ((y21,()).1) (0:Int) (0:Int) i j k l m o ([]:List Int) p))) else some ⟨o_Z135,(l,m,o,p,())⟩) := (hw _ _).trans (by kernel_rfl)
theorem Z135.ev (R:Run) (N:Nat) (a0 a1:(vK × Unit)) (a2:(List Int)) (a3 a4:Int):evFn E R sg_Z135 pol_Z135 F_Z135 N [⟨(.ptr (.cons yK .nil)),a0⟩,⟨(.ptr (.cons yK .nil)),a1⟩,⟨yL,a2⟩,⟨yI,a3⟩,⟨yI,a4⟩] = ((callT R n_Z123 o_Z123 [⟨(.ptr (.cons yK .nil)),a0⟩,⟨yI,a3⟩]).bind fun r1 => ((callT R n_Z123 o_Z123 [⟨(.ptr (.cons yK .nil)),a1⟩,⟨yI,a3⟩]).bind fun r2 => ((callT R n_Z140 o_Z140 [⟨(.ptr (.cons yK .nil)),a0⟩]).bind fun r3 => ((callT R n_Z113 o_Z113 [⟨yI,a4⟩,⟨yI,(List.length r2.1:Int)⟩,⟨yI,(List.length r1.1:Int)⟩]).bind fun r4 => (Z135.l0 R N N a0 a1 a2 a4 r1.1 r2.1 r3.1 (0:Int) (0:Int) (0:Int) (0:Int) r4.1 r4.2.1 r4.2.2.1 r4.2.2.2.1))))) := by kernel_rfl
noncomputable def Z121.j1 (R:Run) (N a:Nat) (b:(vK × Unit)) (e:(List Int)) (f:Int) (g:Bool) (h:(List Int)):Option Dv := R.w (some ⟨(.c (.ip (.cons yK .nil) b 0)::(zd 4 (.c (.d yL e)::(.c (.arr 15)::(.c (.d yI f)::(zd 16 (.c (.d .bool g)::(zd 11 [])))))))),(zo 15 (some (.arr yI h true false false)::(zo 22 [])))⟩) fun st => eC R pol_Z121 N [1,1,1,0,1,0,0,0,1] F_Z121 st (kS R pol_Z121 6 N [1,1,1,0,1,0,0,1] F_Z121 (kL R pol_Z121 4 N [1,1,1,0,1,0,0] F_Z121 a (kB R pol_Z121 0 (kS R pol_Z121 7 N [1,1,1,1] F_Z121 (kTop E sg_Z121 F_Z121)))))
noncomputable def Z121.l0 (R:Run) (N n:Nat) (a:(vK × Unit)) (b:(List Int)) (e:Int) (f:(List Int)):Option Dv := R.w (some ⟨(.c (.ip (.cons yK .nil) a 0)::(zd 4 (.c (.d yL b)::(.c (.arr 15)::(.c (.d yI e)::(zd 28 [])))))),(zo 15 (some (.arr yI f true false false)::(zo 22 [])))⟩) fun st => lC R pol_Z121 4 N [1,1,1,0,1,0,0] F_Z121 n st (kB R pol_Z121 0 (kS R pol_Z121 7 N [1,1,1,1] F_Z121 (kTop E sg_Z121 F_Z121)))
theorem Z121.j1_eq (R:Run) (hw:R.ok) (N a:Nat) (b:(vK × Unit)) (c:(List Int)) (d:Int) (e:Bool) (f:(List Int)):Z121.j1 R N a b c d e f = (bif e then ((callT R n_Z120 o_Z120 [⟨yL,c⟩,⟨yI,d⟩]).bind fun r11 => ((callT R n_Z122 o_Z122 [⟨(.ptr (.cons yK .nil)),b⟩,⟨yL,r11.1⟩]).bind fun r12 => ((chk (decide ((List.length f + List.length [r12.1]) * 8 ≤ 70368744177664))).bind fun _ => (Z121.l0 R N a b c (w64 (d + (1:Int))) (f ++ [r12.1]))))) else some ⟨o_Z121,(f,())⟩) := (hw _ _).trans (by kernel_rfl)
theorem Z121.l0_succ (R:Run) (hw:R.ok) (N n:Nat) (a:(vK × Unit)) (b:(List Int)) (c:Int) (d:(List Int)):Z121.l0 R N (n + 1) a b c d = (bif (decide (c < (List.length b:Int))) then (Z121.j1 R N n a b c (decide ((List.length b:Int) > (1:Int))) d) else (Z121.j1 R N n a b c false d)) := (hw _ _).trans (by kernel_rfl)
theorem Z121.ev (R:Run) (N:Nat) (a0:(vK × Unit)) (a1:Int):evFn E R sg_Z121 pol_Z121 F_Z121 N [⟨(.ptr (.cons yK .nil)),a0⟩,⟨yI,a1⟩] = ((idx? a0.1 a1).bind fun y1 => (Z121.l0 R N N a0 ((y1,()).1) (0:Int) ([]:List Int))) := by kernel_rfl
noncomputable def Z128.l2 (R:Run) (N a n:Nat) (b:(vK × Unit)) (e f:Int) (g h:(List Int)) (i:Int) (j:(List Int)) (k l m o p q r:Int) (s:(List Int)):Option Dv := R.w (some ⟨(.c (.ip (.cons yK .nil) b 0)::(.c (.d yI e)::(.c (.d yI f)::(zd 3 (.c (.box 6 0)::(.c (.d yL g)::(.c (.d yL h)::(.c (.box 9 0)::(.c (.d yI i)::(.c (.d yL j)::(.c (.d yI k)::(zd 55 [])))))))))))),(zo 6 (some (.box [.d yI l,.d yI m,.d yI o,.nils yI] false false)::(none::(none::(some (.box [.d yI p,.d yI q,.d yI r,.arr 71] false false)::(zo 61 (some (.arr yI s true false false)::[])))))))⟩) fun st => lC R pol_Z128 9 N [1,1,1,1,0,1,0,0,1,0,0,1,1,0,0] F_Z128 n st (kB R pol_Z128 2 (kB R pol_Z128 1 (kS R pol_Z128 6 N [1,1,1,1,0,1,0,0,1,1] F_Z128 (kL R pol_Z128 5 N [1,1,1,1,0,1,0,0] F_Z128 a (kB R pol_Z128 0 (q0_5 R N (kTop E sg_Z128 F_Z128)))))))
noncomputable def Z128.j1 (R:Run) (N a:Nat) (b:(vK × Unit)) (e f:Int) (g h:(List Int)) (i:Int) (j:Bool) (k l m o p q:Int) (r:(List Int)):Option Dv := R.w (some ⟨(.c (.ip (.cons yK .nil) b 0)::(.c (.d yI e)::(.c (.d yI f)::(zd 3 (.c (.box 6 0)::(.c (.d yL g)::(.c (.d yL h)::(.c (.box 9 0)::(.c (.d yI i)::(zd 22 (.c (.d .bool j)::(zd 34 [])))))))))))),(zo 6 (some (.box [.d yI k,.d yI l,.d yI m,.nils yI] false false)::(none::(none::(some (.box [.d yI o,.d yI p,.d yI q,.arr 71] false false)::(zo 61 (some (.arr yI r true false false)::[])))))))⟩) fun st => eC R pol_Z128 N [1,1,1,1,0,1,0,0,0,1] F_Z128 st (kS R pol_Z128 7 N [1,1,1,1,0,1,0,0,1] F_Z128 (kL R pol_Z128 5 N [1,1,1,1,0,1,0,0] F_Z128 a (kB R pol_Z128 0 (q0_5 R N (kTop E sg_Z128 F_Z128)))))
noncomputable def Z128.l0 (R:Run) (N n:Nat) (a:(vK × Unit)) (b e:Int) (f g:(List Int)) (h i j k l m o:Int) (p:(List Int)):Option Dv := R.w (some ⟨(.c (.ip (.cons yK .nil) a 0)::(.c (.d yI b)::(.c (.d yI e)::(zd 3 (.c (.box 6 0)::(.c (.d yL f)::(.c (.d yL g)::(.c (.box 9 0)::(.c (.d yI h)::(zd 57 [])))))))))),(zo 6 (some (.box [.d yI i,.d yI j,.d yI k,.nils yI] false false)::(none::(none::(some (.box [.d yI l,.d yI m,.d yI o,.arr 71] false false)::(zo 61 (some (.arr yI p true false false)::[])))))))⟩) fun st => lC R pol_Z128 5 N [1,1,1,1,0,1,0,0] F_Z128 n st (kB R pol_Z128 0 (q0_5 R N (kTop E sg_Z128 F_Z128)))
theorem Z128.l2_succ (R:Run) (hw:R.ok) (N a n:Nat) (b:(vK × Unit)) (c d:Int) (e f:(List Int)) (g:Int) (h:(List Int)) (i j k l m o p:Int) (q:(List Int)):Z128.l2 R N a (n + 1) b c d e f g h i j k l m o p q = (bif (decide (i < (List.length h:Int))) then ((idx? h i).bind fun y48 => ((idx? f (0:Int)).bind fun y49 => ((callT R n_Z130 o_Z130 [⟨yI,i⟩,⟨yI,d⟩]).bind fun r50 => ((chk (decide (0 ≤ (w64 ((w64 ((w64 ((y48,()).1 - (y49,()).1)) * p)) + g))) && decide ((w64 ((w64 ((w64 ((y48,()).1 - (y49,()).1)) * p)) + g)) < (List.length q:Int)))).bind fun _ => (Z128.l2 R N a n b c d e f g h (w64 (i + (1:Int))) j k l m o p (List.set q (Int.toNat (w64 ((w64 ((w64 ((y48,()).1 - (y49,()).1)) * p)) + g))) r50.1)))))) else (Z128.l0 R N a b c d e f (w64 (g + (1:Int))) j k l m o p q)) := (hw _ _).trans (by kernel_rfl)
theorem Z128.j1_eq (R:Run) (hw:R.ok) (N a:Nat) (b:(vK × Unit)) (c d:Int) (e f:(List Int)) (g:Int) (h:Bool) (i j k l m o:Int) (p:(List Int)):Z128.j1 R N a b c d e f g h i j k l m o p = (bif h then ((idx? e g).bind fun y31 => ((callT R n_Z121 o_Z121 [⟨(.ptr (.cons yK .nil)),b⟩,⟨yI,(y31,()).1⟩]).bind fun r32 => (Z128.l2 R N a N b c d e f g r32.1 (0:Int) i j k l m o p))) else some ⟨o_Z128,(l,m,o,p,())⟩) := (hw _ _).trans (by kernel_rfl)
theorem Z128.l0_succ (R:Run) (hw:R.ok) (N n:Nat) (a:(vK × Unit)) (b c:Int) (d e:(List Int)) (f g h i j k l:Int) (m:(List Int)):Z128.l0 R N (n + 1) a b c d e f g h i j k l m = (bif (decide (f < (List.length d:Int))) then (Z128.j1 R N n a b c d e f (decide (b > (0:Int))) g h i j k l m) else (Z128.j1 R N n a b c d e f false g h i j k l m)) := (hw _ _).trans (by kernel_rfl)
theorem Z128.ev (R:Run) (N:Nat) (a0:(vK × Unit)) (a1 a2:Int):evFn E R sg_Z128 pol_Z128 F_Z128 N [⟨(.ptr (.cons yK .nil)),a0⟩,⟨yI,a1⟩,⟨yI,a2⟩] = ((callT R n_Z123 o_Z123 [⟨(.ptr (.cons yK .nil)),a0⟩,⟨yI,a1⟩]).bind fun r1 => ((callT R n_Z123 o_Z123 [⟨(.ptr (.cons yK .nil)),a0⟩,⟨yI,(w64 (a1 - (1:Int)))⟩]).bind fun r2 => ((callT R n_Z113 o_Z113 [⟨yI,a2⟩,⟨yI,(List.length r2.1:Int)⟩,⟨yI,(List.length r1.1:Int)⟩]).bind fun r3 => (Z128.l0 R N N a0 a1 a2 r1.1 r2.1 (0:Int) (0:Int) (0:Int) (0:Int) r3.1 r3.2.1 r3.2.2.1 r3.2.2.2.1)))) := by kernel_rfl
noncomputable def Z107.l0 (R:Run) (N n:Nat) (a b e f:Int):Option Dv := R.w (some ⟨(.c (.d yI a)::(.c (.d yI b)::(zd 3 (.c (.d yI e)::(.c (.d yI f)::(zd 12 [])))))),(zo 21 [])⟩) fun st => lC R pol_Z107 3 N [1,1,0,1,0,0] F_Z107 n st (kB R pol_Z107 0 (kS R pol_Z107 6 N [1,1,1] F_Z107 (kTop E sg_Z107 F_Z107)))
theorem Z107.l0_succ (R:Run) (hw:R.ok) (N n:Nat) (a b c d:Int):Z107.l0 R N (n + 1) a b c d = (bif (decide (d > (0:Int))) then ((chk (b != 0)).bind fun _ => (Z107.l0 R N n a b (Int.tmod (w64 (c * a)) b) (w64 (d - (1:Int))))) else some ⟨o_Z107,(c,())⟩) := (hw _ _).trans (by kernel_rfl)
theorem Z107.ev (R:Run) (N:Nat) (a0 a1:Int):evFn E R sg_Z107 pol_Z107 F_Z107 N [⟨yI,a0⟩,⟨yI,a1⟩] = (Z107.l0 R N N a0 a1 (1:Int) (w64 (a1 - (2:Int)))) := by kernel_rfl
theorem Z110.ev (R:Run) (N:Nat) (a0 a1:Int):evFn E R sg_Z110 pol_Z110 F_Z110 N [⟨yI,a0⟩,⟨yI,a1⟩] = ((chk (a1 != 0)).bind fun _ => ((chk (a1 != 0)).bind fun _ => some ⟨o_Z110,((Int.tmod (w64 ((Int.tmod a0 a1) + a1)) a1),())⟩)) := by kernel_rfl
noncomputable def Z111.l10 (R:Run) (N a b n:Nat) (e:vM) (f g h i j k l m o p q r s t:Int) (u v:(List Int)):Option Dv := R.w (some ⟨(.c (.ip yM e 0)::(V.dead::(.c (.box 2 0)::(V.dead::(V.dead::(.c (.box 5 0)::(.c (.d yI f)::(.c (.d yI g)::(.c (.arr 47)::(.c (.d yI h)::(.c (.d yI i)::(.c (.d yI j)::(zd 6 (.c (.d yI k)::(.c (.d yI l)::(.c (.d yI m)::(zd 225 []))))))))))))))))),(none::(none::(some (.box [.d yI o,.d yI p,.d yI q,.nils yI] false false)::(none::(none::(some (.box [.d yI r,.d yI s,.d yI t,.arr 247] false false)::(zo 41 (some (.arr yI u true false false)::(zo 199 (some (.arr yI v true false false)::[]))))))))))⟩) fun st => lC R pol_Z111 35 N [1,1,1,1,1,1,1,0,1,0,0,1,0,0,1,1,1,1,1,1,1,1,0,1,0,0,1,0,0,1,1,1,0,0] F_Z111 n st (kB R pol_Z111 10 (kB R pol_Z111 9 (q0_6 R N (q0_12 R N b (kB R pol_Z111 8 (q0_7 R N (q0_14 R (q0_8 R N (q0_13 R N a (q0_15 R (q0_9 R N (kTop E sg_Z111 F_Z111))))))))))))
noncomputable def Z111.j9 (R:Run) (N a b:Nat) (e:vM) (f g h i j k l:Int) (m:Bool) (o p q r s t:Int) (u v:(List Int)):Option Dv := R.w (some ⟨(.c (.ip yM e 0)::(V.dead::(.c (.box 2 0)::(V.dead::(V.dead::(.c (.box 5 0)::(.c (.d yI f)::(.c (.d yI g)::(.c (.arr 47)::(.c (.d yI h)::(.c (.d yI i)::(.c (.d yI j)::(zd 6 (.c (.d yI k)::(.c (.d yI l)::(zd 180 (.c (.d .bool m)::(zd 45 [])))))))))))))))))),(none::(none::(some (.box [.d yI o,.d yI p,.d yI q,.nils yI] false false)::(none::(none::(some (.box [.d yI r,.d yI s,.d yI t,.arr 247] false false)::(zo 41 (some (.arr yI u true false false)::(zo 199 (some (.arr yI v true false false)::[]))))))))))⟩) fun st => eC R pol_Z111 N [1,1,1,1,1,1,1,0,1,0,0,1,0,0,1,1,1,1,1,1,1,1,0,1,0,0,1,0,0,1,0,1] F_Z111 st (kS R pol_Z111 34 N [1,1,1,1,1,1,1,0,1,0,0,1,0,0,1,1,1,1,1,1,1,1,0,1,0,0,1,0,0,1,1] F_Z111 (kB R pol_Z111 9 (q0_6 R N (q0_12 R N b (kB R pol_Z111 8 (q0_7 R N (q0_14 R (q0_8 R N (q0_13 R N a (q0_15 R (q0_9 R N (kTop E sg_Z111 F_Z111))))))))))))
noncomputable def Z111.l8 (R:Run) (N a n:Nat) (b:vM) (e f g h i j k l m o p q:Int) (r s:(List Int)):Option Dv := R.w (some ⟨(.c (.ip yM b 0)::(V.dead::(.c (.box 2 0)::(V.dead::(V.dead::(.c (.box 5 0)::(.c (.d yI e)::(.c (.d yI f)::(.c (.arr 47)::(.c (.d yI g)::(.c (.d yI h)::(.c (.d yI i)::(zd 6 (.c (.d yI j)::(zd 227 []))))))))))))))),(none::(none::(some (.box [.d yI k,.d yI l,.d yI m,.nils yI] false false)::(none::(none::(some (.box [.d yI o,.d yI p,.d yI q,.arr 247] false false)::(zo 41 (some (.arr yI r true false false)::(zo 199 (some (.arr yI s true false false)::[]))))))))))⟩) fun st => lC R pol_Z111 30 N [1,1,1,1,1,1,1,0,1,0,0,1,0,0,1,1,1,1,1,1,1,1,0,1,0,0] F_Z111 n st (kB R pol_Z111 8 (q0_7 R N (q0_14 R (q0_8 R N (q0_13 R N a (q0_15 R (q0_9 R N (kTop E sg_Z111 F_Z111))))))))
noncomputable def Z111.l7 (R:Run) (N a n:Nat) (b:vM) (e f g h i j k l m o p q r:Int) (s t:(List Int)):Option Dv := R.w (some ⟨(.c (.ip yM b 0)::(V.dead::(.c (.box 2 0)::(V.dead::(V.dead::(.c (.box 5 0)::(.c (.d yI e)::(.c (.d yI f)::(.c (.arr 47)::(.c (.d yI g)::(.c (.d yI h)::(.c (.d yI i)::(zd 4 (.c (.d yI j)::(.c (.d yI k)::(zd 228 [])))))))))))))))),(none::(none::(some (.box [.d yI l,.d yI m,.d yI o,.nils yI] false false)::(none::(none::(some (.box [.d yI p,.d yI q,.d yI r,.arr 247] false false)::(zo 41 (some (.arr yI s true false false)::(zo 199 (some (.arr yI t true false false)::[]))))))))))⟩) fun st => lC R pol_Z111 26 N [1,1,1,1,1,1,1,0,1,0,0,1,0,0,1,1,1,1,1,1,1,0,1,0,0] F_Z111 n st (kB R pol_Z111 6 (kS R pol_Z111 29 N [1,1,1,1,1,1,1,0,1,0,0,1,0,0,1,1,1,1,1,1,1,1] F_Z111 (q0_14 R (q0_8 R N (q0_13 R N a (q0_15 R (q0_9 R N (kTop E sg_Z111 F_Z111))))))))
noncomputable def Z111.j6 (R:Run) (N a:Nat) (b:vM) (e f g h i j k l m o p:Int) (q r:(List Int)):Option Dv := R.w (some ⟨(.c (.ip yM b 0)::(V.dead::(.c (.box 2 0)::(V.dead::(V.dead::(.c (.box 5 0)::(.c (.d yI e)::(.c (.d yI f)::(.c (.arr 47)::(.c (.d yI g)::(.c (.d yI h)::(.c (.d yI i)::(zd 234 []))))))))))))),(none::(none::(some (.box [.d yI j,.d yI k,.d yI l,.nils yI] false false)::(none::(none::(some (.box [.d yI m,.d yI o,.d yI p,.arr 247] false false)::(zo 41 (some (.arr yI q true false false)::(zo 199 (some (.arr yI r true false false)::[]))))))))))⟩) fun st => eC R pol_Z111 N [1,1,1,1,1,1,1,0,1,0,0,1,0,0,1,1,1,1] F_Z111 st (q0_14 R (q0_8 R N (q0_13 R N a (q0_15 R (q0_9 R N (kTop E sg_Z111 F_Z111))))))
noncomputable def Z111.l5 (R:Run) (N a n:Nat) (b:vM) (e f g h i j k l m o p q r:Int) (s t:(List Int)):Option Dv := R.w (some ⟨(.c (.ip yM b 0)::(V.dead::(.c (.box 2 0)::(V.dead::(V.dead::(.c (.box 5 0)::(.c (.d yI e)::(.c (.d yI f)::(.c (.arr 47)::(.c (.d yI g)::(.c (.d yI h)::(.c (.d yI i)::(.c (.d yI j)::(.c (.d yI k)::(zd 232 []))))))))))))))),(none::(none::(some (.box [.d yI l,.d yI m,.d yI o,.nils yI] false false)::(none::(none::(some (.box [.d yI p,.d yI q,.d yI r,.arr 247] false false)::(zo 41 (some (.arr yI s true false false)::(zo 199 (some (.arr yI t true false false)::[]))))))))))⟩) fun st => lC R pol_Z111 17 N [1,1,1,1,1,1,1,0,1,0,0,1,0,0,1,1,1,0,1,0,1,1,0,0] F_Z111 n st (kB R pol_Z111 4 (kS R pol_Z111 22 N [1,1,1,1,1,1,1,0,1,0,0,1,0,0,1,1,1,1] F_Z111 (q0_14 R (q0_8 R N (q0_13 R N a (q0_15 R (q0_9 R N (kTop E sg_Z111 F_Z111))))))))
noncomputable def Z111.j4 (R:Run) (N a b:Nat) (e:vM) (f g h i j k:Int) (l:Bool) (m o p q r s:Int) (t u:(List Int)):Option Dv := R.w (some ⟨(.c (.ip yM e 0)::(V.dead::(.c (.box 2 0)::(V.dead::(V.dead::(.c (.box 5 0)::(.c (.d yI f)::(.c (.d yI g)::(.c (.arr 47)::(.c (.d yI h)::(.c (.d yI i)::(.c (.d yI j)::(.c (.d yI k)::(zd 66 (.c (.d .bool l)::(zd 166 [])))))))))))))))),(none::(none::(some (.box [.d yI m,.d yI o,.d yI p,.nils yI] false false)::(none::(none::(some (.box [.d yI q,.d yI r,.d yI s,.arr 247] false false)::(zo 41 (some (.arr yI t true false false)::(zo 199 (some (.arr yI u true false false)::[]))))))))))⟩) fun st => eC R pol_Z111 N [1,1,1,1,1,1,1,0,1,0,0,1,0,0,1,0,0,0,0,1] F_Z111 st (kS R pol_Z111 12 N [1,1,1,1,1,1,1,0,1,0,0,1,0,0,1,0,0,0,1] F_Z111 (kL R pol_Z111 11 N [1,1,1,1,1,1,1,0,1,0,0,1,0,0,1,0,0,0] F_Z111 b (kB R pol_Z111 2 (q0_10 R N (q0_14 R (q0_8 R N (q0_13 R N a (q0_15 R (q0_9 R N (kTop E sg_Z111 F_Z111))))))))))
noncomputable def Z111.l3 (R:Run) (N a n:Nat) (b:vM) (e f g h i j k l m o p q:Int) (r s:(List Int)):Option Dv := R.w (some ⟨(.c (.ip yM b 0)::(V.dead::(.c (.box 2 0)::(V.dead::(V.dead::(.c (.box 5 0)::(.c (.d yI e)::(.c (.d yI f)::(.c (.arr 47)::(.c (.d yI g)::(.c (.d yI h)::(.c (.d yI i)::(.c (.d yI j)::(zd 233 [])))))))))))))),(none::(none::(some (.box [.d yI k,.d yI l,.d yI m,.nils yI] false false)::(none::(none::(some (.box [.d yI o,.d yI p,.d yI q,.arr 247] false false)::(zo 41 (some (.arr yI r true false false)::(zo 199 (some (.arr yI s true false false)::[]))))))))))⟩) fun st => lC R pol_Z111 11 N [1,1,1,1,1,1,1,0,1,0,0,1,0,0,1,0,0,0] F_Z111 n st (kB R pol_Z111 2 (q0_10 R N (q0_14 R (q0_8 R N (q0_13 R N a (q0_15 R (q0_9 R N (kTop E sg_Z111 F_Z111))))))))
noncomputable def Z111.j2 (R:Run) (N a:Nat) (b:vM) (e f g h i:Int) (j:Bool) (k l m o p q:Int) (r s:(List Int)):Option Dv := R.w (some ⟨(.c (.ip yM b 0)::(V.dead::(.c (.box 2 0)::(V.dead::(V.dead::(.c (.box 5 0)::(.c (.d yI e)::(.c (.d yI f)::(.c (.arr 47)::(.c (.d yI g)::(.c (.d yI h)::(.c (.d yI i)::(zd 46 (.c (.d .bool j)::(zd 187 []))))))))))))))),(none::(none::(some (.box [.d yI k,.d yI l,.d yI m,.nils yI] false false)::(none::(none::(some (.box [.d yI o,.d yI p,.d yI q,.arr 247] false false)::(zo 41 (some (.arr yI r true false false)::(zo 199 (some (.arr yI s true false false)::[]))))))))))⟩) fun st => eC R pol_Z111 N [1,1,1,1,1,1,1,0,1,0,0,0,1] F_Z111 st (kS R pol_Z111 10 N [1,1,1,1,1,1,1,0,1,0,0,1] F_Z111 (q0_13 R N a (q0_15 R (q0_9 R N (kTop E sg_Z111 F_Z111)))))
noncomputable def Z111.l1 (R:Run) (N n:Nat) (a:vM) (b e f g h i j k l m o:Int) (p q:(List Int)):Option Dv := R.w (some ⟨(.c (.ip yM a 0)::(V.dead::(.c (.box 2 0)::(V.dead::(V.dead::(.c (.box 5 0)::(.c (.d yI b)::(.c (.d yI e)::(.c (.arr 47)::(.c (.d yI f)::(.c (.d yI g)::(.c (.d yI h)::(zd 234 []))))))))))))),(none::(none::(some (.box [.d yI i,.d yI j,.d yI k,.nils yI] false false)::(none::(none::(some (.box [.d yI l,.d yI m,.d yI o,.arr 247] false false)::(zo 41 (some (.arr yI p true false false)::(zo 199 (some (.arr yI q true false false)::[]))))))))))⟩) fun st => lC R pol_Z111 8 N [1,1,1,1,1,1,1,0,1,0,0] F_Z111 n st (q0_15 R (q0_9 R N (kTop E sg_Z111 F_Z111)))
noncomputable def Z111.j0 (R:Run) (N:Nat) (a:vM) (b e f g h i:Int) (j:(List Int)):Option Dv := R.w (some ⟨(.c (.ip yM a 0)::(V.dead::(.c (.box 2 0)::(V.dead::(V.dead::(.c (.box 5 0)::(zd 240 []))))))),(none::(none::(some (.box [.d yI b,.d yI e,.d yI f,.nils yI] false false)::(none::(none::(some (.box [.d yI g,.d yI h,.d yI i,.arr 247] false false)::(zo 241 (some (.arr yI j true false false)::[]))))))))⟩) fun st => eC R pol_Z111 N [1,1] F_Z111 st (kTop E sg_Z111 F_Z111)
theorem Z111.l10_succ (R:Run) (hw:R.ok) (N a b n:Nat) (c:vM) (d e f g h i j k l m o p q r:Int) (s t:(List Int)):Z111.l10 R N a b (n + 1) c d e f g h i j k l m o p q r s t = (bif (decide (k < e)) then ((chk (decide (0 ≤ (w64 ((w64 (i * e)) + k))) && decide ((w64 ((w64 (i * e)) + k)) < (List.length t:Int)))).bind fun _ => (Option.bind (t)[(Int.toNat (w64 ((w64 (i * e)) + k)))]? fun y248 => ((chk (decide (0 ≤ (w64 ((w64 (g * e)) + k))) && decide ((w64 ((w64 (g * e)) + k)) < (List.length t:Int)))).bind fun _ => (Option.bind (t)[(Int.toNat (w64 ((w64 (g * e)) + k)))]? fun y249 => ((callT R n_Z110 o_Z110 [⟨yI,(w64 (y248 - (w64 (j * y249))))⟩,⟨yI,d⟩]).bind fun r250 => ((chk (decide (0 ≤ (w64 ((w64 (i * e)) + k))) && decide ((w64 ((w64 (i * e)) + k)) < (List.length t:Int)))).bind fun _ => (Z111.l10 R N a b n c d e f g h i j (w64 (k + (1:Int))) l m o p q r s (List.set t (Int.toNat (w64 ((w64 (i * e)) + k))) r250.1)))))))) else (Z111.l8 R N a b c d e f g h (w64 (i + (1:Int))) l m o p q r s t)) := (hw _ _).trans (by kernel_rfl)
theorem Z111.j9_eq (R:Run) (hw:R.ok) (N a b:Nat) (c:vM) (d e f g h i j:Int) (k:Bool) (l m o p q r:Int) (s t:(List Int)):Z111.j9 R N a b c d e f g h i j k l m o p q r s t = (bif k then (Z111.l8 R N a b c d e f g h (w64 (i + (1:Int))) l m o p q r s t) else (Z111.l10 R N a b N c d e f g h i j (0:Int) l m o p q r s t)) := (hw _ _).trans (by kernel_rfl)
theorem Z111.l8_succ (R:Run) (hw:R.ok) (N a n:Nat) (b:vM) (c d e f g h i j k l m o:Int) (p q:(List Int)):Z111.l8 R N a (n + 1) b c d e f g h i j k l m o p q = (bif (decide (h < b.2.1)) then ((chk (decide (0 ≤ (w64 ((w64 (h * d)) + g))) && decide ((w64 ((w64 (h * d)) + g)) < (List.length q:Int)))).bind fun _ => (Option.bind (q)[(Int.toNat (w64 ((w64 (h * d)) + g)))]? fun y198 => (bif (h == f) then (Z111.j9 R N a n b c d e f g h y198 true i j k l m o p q) else (Z111.j9 R N a n b c d e f g h y198 (y198 == (0:Int)) i j k l m o p q)))) else ((chk (decide ((List.length p + List.length [g]) * 8 ≤ 70368744177664))).bind fun _ => (Z111.l1 R N a b c d e (w64 (f + (1:Int))) (w64 (g + (1:Int))) i j k l m o (p ++ [g]) q))) := (hw _ _).trans (by kernel_rfl)
theorem Z111.l7_succ (R:Run) (hw:R.ok) (N a n:Nat) (b:vM) (c d e f g h i j k l m o p:Int) (q r:(List Int)):Z111.l7 R N a (n + 1) b c d e f g h i j k l m o p q r = (bif (decide (i < d)) then ((chk (decide (0 ≤ (w64 ((w64 (f * d)) + i))) && decide ((w64 ((w64 (f * d)) + i)) < (List.length r:Int)))).bind fun _ => (Option.bind (r)[(Int.toNat (w64 ((w64 (f * d)) + i)))]? fun y166 => ((chk (c != 0)).bind fun _ => ((chk (decide (0 ≤ (w64 ((w64 (f * d)) + i))) && decide ((w64 ((w64 (f * d)) + i)) < (List.length r:Int)))).bind fun _ => (Z111.l7 R N a n b c d e f g h (w64 (i + (1:Int))) j k l m o p q (List.set r (Int.toNat (w64 ((w64 (f * d)) + i))) (Int.tmod (w64 (y166 * h)) c))))))) else (Z111.l8 R N a N b c d e f g (0:Int) j k l m o p q r)) := (hw _ _).trans (by kernel_rfl)
theorem Z111.j6_eq (R:Run) (hw:R.ok) (N a:Nat) (b:vM) (c d e f g h i j k l m:Int) (o p:(List Int)):Z111.j6 R N a b c d e f g h i j k l m o p = ((chk (decide (0 ≤ (w64 ((w64 (f * d)) + g))) && decide ((w64 ((w64 (f * d)) + g)) < (List.length p:Int)))).bind fun _ => (Option.bind (p)[(Int.toNat (w64 ((w64 (f * d)) + g)))]? fun y148 => ((chk (c != 0)).bind fun _ => ((callT R n_Z107 o_Z107 [⟨yI,y148⟩,⟨yI,c⟩]).bind fun r149 => (Z111.l7 R N a N b c d (Int.tmod (w64 (e * y148)) c) f g r149.1 (0:Int) h i j k l m o p))))) := (hw _ _).trans (by kernel_rfl)
theorem Z111.l5_succ (R:Run) (hw:R.ok) (N a n:Nat) (b:vM) (c d e f g h i j k l m o p:Int) (q r:(List Int)):Z111.l5 R N a (n + 1) b c d e f g h i j k l m o p q r = (bif (decide (i < d)) then ((chk (decide (0 ≤ (w64 ((w64 (h * d)) + i))) && decide ((w64 ((w64 (h * d)) + i)) < (List.length r:Int)))).bind fun _ => (Option.bind (r)[(Int.toNat (w64 ((w64 (h * d)) + i)))]? fun y116 => ((chk (decide (0 ≤ (w64 ((w64 (f * d)) + i))) && decide ((w64 ((w64 (f * d)) + i)) < (List.length r:Int)))).bind fun _ => (Option.bind (r)[(Int.toNat (w64 ((w64 (f * d)) + i)))]? fun y117 => ((chk (decide (0 ≤ (w64 ((w64 (h * d)) + i))) && decide ((w64 ((w64 (h * d)) + i)) < (List.length r:Int)))).bind fun _ => ((chk (decide (0 ≤ (w64 ((w64 (f * d)) + i))) && decide ((w64 ((w64 (f * d)) + i)) < (List.length (List.set r (Int.toNat (w64 ((w64 (h * d)) + i))) y117):Int)))).bind fun _ => (Z111.l5 R N a n b c d e f g h (w64 (i + (1:Int))) j k l m o p q (List.set (List.set r (Int.toNat (w64 ((w64 (h * d)) + i))) y117) (Int.toNat (w64 ((w64 (f * d)) + i))) y116)))))))) else (Z111.j6 R N a b c d e f g j k l m o p q r)) := (hw _ _).trans (by kernel_rfl)
theorem Z111.j4_eq (R:Run) (hw:R.ok) (N a b:Nat) (c:vM) (d e f g h i:Int) (j:Bool) (k l m o p q:Int) (r s:(List Int)):Z111.j4 R N a b c d e f g h i j k l m o p q r s = (bif j then (Z111.l3 R N a b c d e f g h (w64 (i + (1:Int))) k l m o p q r s) else (bif (i == c.2.1) then (Z111.l1 R N a c d e f g (w64 (h + (1:Int))) k l m o p q r s) else (bif (i != g) then (Z111.l5 R N a N c d e (w64 (d - f)) g h i (0:Int) k l m o p q r s) else (Z111.j6 R N a c d e f g h k l m o p q r s)))) := (hw _ _).trans (by kernel_rfl)
theorem Z111.l3_succ (R:Run) (hw:R.ok) (N a n:Nat) (b:vM) (c d e f g h i j k l m o:Int) (p q:(List Int)):Z111.l3 R N a (n + 1) b c d e f g h i j k l m o p q = (bif (decide (h < b.2.1)) then ((chk (decide (0 ≤ (w64 ((w64 (h * d)) + g))) && decide ((w64 ((w64 (h * d)) + g)) < (List.length q:Int)))).bind fun _ => (Option.bind (q)[(Int.toNat (w64 ((w64 (h * d)) + g)))]? fun y54 => (Z111.j4 R N a n b c d e f g h (y54 == (0:Int)) i j k l m o p q))) else (Z111.j4 R N a n b c d e f g h false i j k l m o p q)) := (hw _ _).trans (by kernel_rfl)
theorem Z111.j2_eq (R:Run) (hw:R.ok) (N a:Nat) (b:vM) (c d e f g:Int) (h:Bool) (i j k l m o:Int) (p q:(List Int)):Z111.j2 R N a b c d e f g h i j k l m o p q = (bif h then (Z111.l3 R N a N b c d e f g f i j k l m o p q) else some ⟨o_Z111,(l,m,o,q,p,e,())⟩) := (hw _ _).trans (by kernel_rfl)
theorem Z111.l1_succ (R:Run) (hw:R.ok) (N n:Nat) (a:vM) (b c d e f g h i j k l:Int) (m o:(List Int)):Z111.l1 R N (n + 1) a b c d e f g h i j k l m o = (bif (decide (f < c)) then (Z111.j2 R N n a b c d e f (decide (e < a.2.1)) g h i j k l m o) else (Z111.j2 R N n a b c d e f false g h i j k l m o)) := (hw _ _).trans (by kernel_rfl)
theorem Z111.j0_eq (R:Run) (hw:R.ok) (N:Nat) (a:vM) (b c d e f g:Int) (h:(List Int)):Z111.j0 R N a b c d e f g h = (Z111.l1 R N N a a.1 a.2.2.1 (1:Int) (0:Int) (0:Int) b c d e f g ([]:List Int) h) := (hw _ _).trans (by kernel_rfl)
theorem Z111.ev (R:Run) (N:Nat) (a0:vM):evFn E R sg_Z111 pol_Z111 F_Z111 N [⟨(.ptr yM),a0⟩] = (both ((callT R n_Z101 o_Z101 [⟨yL,a0.2.2.2.1⟩]).bind fun r1 => (Z111.j0 R N a0 (0:Int) (0:Int) (0:Int) a0.1 a0.2.1 a0.2.2.1 r1.1)) ((callT R n_Z101 o_Z101 [⟨yL,a0.2.2.2.1⟩]).bind fun r359 => (Z111.j0 R N a0 (0:Int) (0:Int) (0:Int) a0.1 a0.2.1 a0.2.2.1 r359.1))) := by kernel_rfl
noncomputable def Z99.l0 (R:Run) (N n:Nat) (a:(List Int)) (b e:Int):Option Dv := R.w (some ⟨(.c (.d yL a)::(.c (.d yI b)::(zd 3 (.c (.d yI e)::(zd 12 []))))),(zo 20 [])⟩) fun st => lC R pol_Z99 2 N [1,0,1,0,0] F_Z99 n st (kB R pol_Z99 0 (kS R pol_Z99 6 N [1,1] F_Z99 (kTop E sg_Z99 F_Z99)))
theorem Z99.l0_succ (R:Run) (hw:R.ok) (N n:Nat) (a:(List Int)) (b c:Int):Z99.l0 R N (n + 1) a b c = (bif (decide (c < (List.length a:Int))) then ((idx? a c).bind fun y4 => (bif ((y4,()).1 == b) then some ⟨o_Z99,(true,())⟩ else (Z99.l0 R N n a b (w64 (c + (1:Int)))))) else some ⟨o_Z99,(false,())⟩) := (hw _ _).trans (by kernel_rfl)
theorem Z99.ev (R:Run) (N:Nat) (a0:(List Int)) (a1:Int):evFn E R sg_Z99 pol_Z99 F_Z99 N [⟨yL,a0⟩,⟨yI,a1⟩] = (Z99.l0 R N N a0 a1 (0:Int)) := by kernel_rfl
end VeT
