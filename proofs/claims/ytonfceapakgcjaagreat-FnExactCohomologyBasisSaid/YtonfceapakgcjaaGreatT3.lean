import Derived.Test.YtonfceapakgcjaaGreatV2
import Derived.Test.YtonfceapakgcjaaGreatProg
import Derived.KernelRfl
set_option linter.unusedVariables false
set_option linter.unusedSimpArgs false
open Go Go.Proofs Ve
set_option linter.unusedVariables false
set_option maxRecDepth 100000
namespace VeT
abbrev yM : Ty := .cons (.int .i64) (.cons (.int .i64) (.cons (.int .i64) (.cons (.sl (.int .i64)) .nil)))
abbrev yI : Ty := .int .i64
abbrev yL : Ty := .sl yI
abbrev yK : Ty := .sl yL
abbrev yN : Ty := .sl (.st yM)
abbrev yS : Ty := .cons yK (.cons yI (.cons yL (.cons yN .nil)))
abbrev vM := Int × Int × Int × List Int × Unit
abbrev vK := List (List Int)
abbrev vN := List vM
abbrev vS := vK × Int × List Int × vN × Unit
noncomputable def bodyOf (f:Func):Code := f.body.getD .skip
def zd:Nat → List Ve.V → List Ve.V
  | 0,t => t
  | n + 1,t => V.dead::zd n t
def zo:Nat → List (Option Ve.Obj) → List (Option Ve.Obj)
  | 0,t => t
  | n + 1,t => none::zo n t
@[reducible] def n_Z75:Nat := 7
@[reducible] def n_Z89:Nat := 11
@[reducible] def n_Z95:Nat := 13
@[reducible] def n_Z78:Nat := 15
@[reducible] def n_Z76:Nat := 16
@[reducible] def n_Z84:Nat := 17
@[reducible] def n_Z86:Nat := 18
@[reducible] def n_Z83:Nat := 19
@[reducible] def n_Z96:Nat := 21
@[reducible] def n_Z77:Nat := 23
@[reducible] def n_Z85:Nat := 24
@[reducible] def n_Z82:Nat := 25
@[reducible] def n_Z79:Nat := 28
@[reducible] def n_Z94:Nat := 31
@[reducible] def n_Z100:Nat := 33
@[reducible] def n_Z81:Nat := 35
@[reducible] def n_Z88:Nat := 36
@[reducible] def n_Z126:Nat := 37
@[reducible] def n_Z5:Nat := 38
@[reducible] def n_Z91:Nat := 46
@[reducible] def n_Z97:Nat := 49
@[reducible] def n_Z133:Nat := 60
@[reducible] def n_Z146:Nat := 62
@[reducible] def n_Z150:Nat := 63
@[reducible] def n_Z90:Nat := 67
@[reducible] def n_Z93:Nat := 68
@[reducible] def n_Z159:Nat := 69
@[reducible] def n_Z99:Nat := 71
@[reducible] def n_Z6:Nat := 72
@[reducible] def n_Z65:Nat := 73
@[reducible] def n_Z26:Nat := 74
@[reducible] def n_Z80:Nat := 75
@[reducible] def n_Z87:Nat := 76
@[reducible] def n_Z167:Nat := 77
@[reducible] def n_Z169:Nat := 78
@[reducible] def n_Z44:Nat := 79
@[reducible] def n_Z130:Nat := 80
@[reducible] def n_Z170:Nat := 88
@[reducible] def n_Z24:Nat := 91
@[reducible] def n_Z45:Nat := 96
@[reducible] def n_Z151:Nat := 97
@[reducible] def n_Z127:Nat := 98
@[reducible] def n_Z153:Nat := 99
@[reducible] def n_Z137:Nat := 100
@[reducible] def n_Z10:Nat := 101
@[reducible] def n_Z13:Nat := 102
@[reducible] def n_Z49:Nat := 103
@[reducible] def n_Z64:Nat := 104
@[reducible] def n_Z56:Nat := 105
@[reducible] def n_Z134:Nat := 107
@[reducible] def n_Z156:Nat := 109
@[reducible] def n_Z142:Nat := 110
@[reducible] def n_Z144:Nat := 111
@[reducible] def n_Z148:Nat := 112
@[reducible] def n_Z154:Nat := 113
@[reducible] def n_Z54:Nat := 115
@[reducible] def n_Z69:Nat := 118
@[reducible] def n_Z67:Nat := 120
@[reducible] def n_Z27:Nat := 121
@[reducible] def n_Z129:Nat := 122
@[reducible] def n_Z73:Nat := 126
@[reducible] def n_Z66:Nat := 127
@[reducible] def n_Z125:Nat := 128
@[reducible] def n_Z46:Nat := 129
@[reducible] def n_Z18:Nat := 130
@[reducible] def n_Z92:Nat := 132
@[reducible] def n_Z161:Nat := 133
@[reducible] def n_Z166:Nat := 134
@[reducible] def n_Z98:Nat := 136
@[reducible] def n_Z14:Nat := 137
@[reducible] def n_Z72:Nat := 138
@[reducible] def n_Z25:Nat := 139
@[reducible] def n_Z149:Nat := 141
@[reducible] def n_Z31:Nat := 147
@[reducible] def n_Z28:Nat := 149
@[reducible] def n_Z114:Nat := 151
@[reducible] def n_Z164:Nat := 152
@[reducible] def n_Z168:Nat := 153
@[reducible] def n_Z158:Nat := 154
@[reducible] def n_Z68:Nat := 156
@[reducible] def n_Z33:Nat := 158
@[reducible] def n_Z8:Nat := 159
@[reducible] def n_Z29:Nat := 160
@[reducible] def n_Z152:Nat := 161
@[reducible] def n_Z145:Nat := 162
@[reducible] def n_Z147:Nat := 163
@[reducible] def n_Z155:Nat := 164
@[reducible] def n_Z140:Nat := 165
@[reducible] def n_Z128:Nat := 166
@[reducible] def n_Z138:Nat := 167
@[reducible] def n_Z15:Nat := 168
@[reducible] def n_Z106:Nat := 169
@[reducible] def n_Z37:Nat := 170
@[reducible] def n_Z11:Nat := 171
@[reducible] def n_Z71:Nat := 172
@[reducible] def n_Z63:Nat := 173
@[reducible] def n_Z34:Nat := 174
@[reducible] def n_Z113:Nat := 175
@[reducible] def n_Z62:Nat := 176
@[reducible] def n_Z36:Nat := 177
@[reducible] def n_Z136:Nat := 178
@[reducible] def n_Z108:Nat := 179
@[reducible] def n_Z55:Nat := 180
@[reducible] def n_Z38:Nat := 182
@[reducible] def n_Z70:Nat := 183
@[reducible] def n_Z7:Nat := 184
@[reducible] def n_Z105:Nat := 185
@[reducible] def n_Z74:Nat := 187
@[reducible] def n_Z101:Nat := 188
@[reducible] def n_Z163:Nat := 189
@[reducible] def n_Z157:Nat := 190
@[reducible] def n_Z160:Nat := 191
@[reducible] def n_Z162:Nat := 192
@[reducible] def n_Z165:Nat := 193
@[reducible] def n_Z141:Nat := 194
@[reducible] def n_Z21:Nat := 195
@[reducible] def n_Z23:Nat := 196
@[reducible] def n_Z48:Nat := 197
@[reducible] def n_Z60:Nat := 198
@[reducible] def n_Z32:Nat := 199
@[reducible] def n_Z9:Nat := 200
@[reducible] def n_Z42:Nat := 201
@[reducible] def n_Z132:Nat := 203
@[reducible] def n_Z103:Nat := 207
@[reducible] def n_Z2:Nat := 209
@[reducible] def n_Z0:Nat := 210
@[reducible] def n_Z104:Nat := 211
@[reducible] def n_Z19:Nat := 212
@[reducible] def n_Z30:Nat := 214
@[reducible] def n_Z131:Nat := 215
@[reducible] def n_Z135:Nat := 216
@[reducible] def n_Z51:Nat := 217
@[reducible] def n_Z16:Nat := 218
@[reducible] def n_Z53:Nat := 219
@[reducible] def n_Z116:Nat := 220
@[reducible] def n_Z35:Nat := 221
@[reducible] def n_Z17:Nat := 222
@[reducible] def n_Z47:Nat := 223
@[reducible] def n_Z119:Nat := 224
@[reducible] def n_Z115:Nat := 225
@[reducible] def n_Z139:Nat := 226
@[reducible] def n_Z143:Nat := 227
@[reducible] def n_Z22:Nat := 228
@[reducible] def n_Z12:Nat := 229
@[reducible] def n_Z61:Nat := 230
@[reducible] def n_Z43:Nat := 231
@[reducible] def n_Z3:Nat := 251
@[reducible] def n_Z1:Nat := 252
@[reducible] def n_Z20:Nat := 253
@[reducible] def n_Z50:Nat := 254
@[reducible] def n_Z57:Nat := 255
@[reducible] def n_Z59:Nat := 256
@[reducible] def n_Z52:Nat := 257
@[reducible] def n_Z4:Nat := 263
@[reducible] def n_Z58:Nat := 267
@[reducible] noncomputable def F_Z75:Func := Tryz.f7
@[reducible] noncomputable def F_Z89:Func := Tryz.f11
@[reducible] noncomputable def F_Z95:Func := Tryz.f13
@[reducible] noncomputable def F_Z78:Func := Tryz.f15
@[reducible] noncomputable def F_Z76:Func := Tryz.f16
@[reducible] noncomputable def F_Z84:Func := Tryz.f17
@[reducible] noncomputable def F_Z86:Func := Tryz.f18
@[reducible] noncomputable def F_Z83:Func := Tryz.f19
@[reducible] noncomputable def F_Z96:Func := Tryz.f21
@[reducible] noncomputable def F_Z77:Func := Tryz.f23
@[reducible] noncomputable def F_Z85:Func := Tryz.f24
@[reducible] noncomputable def F_Z82:Func := Tryz.f25
@[reducible] noncomputable def F_Z79:Func := Tryz.f28
@[reducible] noncomputable def F_Z94:Func := Tryz.f31
@[reducible] noncomputable def F_Z100:Func := Tryz.f33
@[reducible] noncomputable def F_Z81:Func := Tryz.f35
@[reducible] noncomputable def F_Z88:Func := Tryz.f36
@[reducible] noncomputable def F_Z126:Func := Tryz.f37
@[reducible] noncomputable def F_Z5:Func := Tryz.f38
@[reducible] noncomputable def F_Z91:Func := Tryz.f46
@[reducible] noncomputable def F_Z97:Func := Tryz.f49
@[reducible] noncomputable def F_Z133:Func := Tryz.f60
@[reducible] noncomputable def F_Z146:Func := Tryz.f62
@[reducible] noncomputable def F_Z150:Func := Tryz.f63
@[reducible] noncomputable def F_Z90:Func := Tryz.f67
@[reducible] noncomputable def F_Z93:Func := Tryz.f68
@[reducible] noncomputable def F_Z159:Func := Tryz.f69
@[reducible] noncomputable def F_Z99:Func := Tryz.f71
@[reducible] noncomputable def F_Z6:Func := Tryz.f72
@[reducible] noncomputable def F_Z65:Func := Tryz.f73
@[reducible] noncomputable def F_Z26:Func := Tryz.f74
@[reducible] noncomputable def F_Z80:Func := Tryz.f75
@[reducible] noncomputable def F_Z87:Func := Tryz.f76
@[reducible] noncomputable def F_Z167:Func := Tryz.f77
@[reducible] noncomputable def F_Z169:Func := Tryz.f78
@[reducible] noncomputable def F_Z44:Func := Tryz.f79
@[reducible] noncomputable def F_Z130:Func := Tryz.f80
@[reducible] noncomputable def F_Z170:Func := Tryz.f88
@[reducible] noncomputable def F_Z24:Func := Tryz.f91
@[reducible] noncomputable def F_Z45:Func := Tryz.f96
@[reducible] noncomputable def F_Z151:Func := Tryz.f97
@[reducible] noncomputable def F_Z127:Func := Tryz.f98
@[reducible] noncomputable def F_Z153:Func := Tryz.f99
@[reducible] noncomputable def F_Z137:Func := Tryz.f100
@[reducible] noncomputable def F_Z10:Func := Tryz.f101
@[reducible] noncomputable def F_Z13:Func := Tryz.f102
@[reducible] noncomputable def F_Z49:Func := Tryz.f103
@[reducible] noncomputable def F_Z64:Func := Tryz.f104
@[reducible] noncomputable def F_Z56:Func := Tryz.f105
@[reducible] noncomputable def F_Z134:Func := Tryz.f107
@[reducible] noncomputable def F_Z156:Func := Tryz.f109
@[reducible] noncomputable def F_Z142:Func := Tryz.f110
@[reducible] noncomputable def F_Z144:Func := Tryz.f111
@[reducible] noncomputable def F_Z148:Func := Tryz.f112
@[reducible] noncomputable def F_Z154:Func := Tryz.f113
@[reducible] noncomputable def F_Z54:Func := Tryz.f115
@[reducible] noncomputable def F_Z69:Func := Tryz.f118
@[reducible] noncomputable def F_Z67:Func := Tryz.f120
@[reducible] noncomputable def F_Z27:Func := Tryz.f121
@[reducible] noncomputable def F_Z129:Func := Tryz.f122
@[reducible] noncomputable def F_Z73:Func := Tryz.f126
@[reducible] noncomputable def F_Z66:Func := Tryz.f127
@[reducible] noncomputable def F_Z125:Func := Tryz.f128
@[reducible] noncomputable def F_Z46:Func := Tryz.f129
@[reducible] noncomputable def F_Z18:Func := Tryz.f130
@[reducible] noncomputable def F_Z92:Func := Tryz.f132
@[reducible] noncomputable def F_Z161:Func := Tryz.f133
@[reducible] noncomputable def F_Z166:Func := Tryz.f134
@[reducible] noncomputable def F_Z98:Func := Tryz.f136
@[reducible] noncomputable def F_Z14:Func := Tryz.f137
@[reducible] noncomputable def F_Z72:Func := Tryz.f138
@[reducible] noncomputable def F_Z25:Func := Tryz.f139
@[reducible] noncomputable def F_Z149:Func := Tryz.f141
@[reducible] noncomputable def F_Z31:Func := Tryz.f147
@[reducible] noncomputable def F_Z28:Func := Tryz.f149
@[reducible] noncomputable def F_Z114:Func := Tryz.f151
@[reducible] noncomputable def F_Z164:Func := Tryz.f152
@[reducible] noncomputable def F_Z168:Func := Tryz.f153
@[reducible] noncomputable def F_Z158:Func := Tryz.f154
@[reducible] noncomputable def F_Z68:Func := Tryz.f156
@[reducible] noncomputable def F_Z33:Func := Tryz.f158
@[reducible] noncomputable def F_Z8:Func := Tryz.f159
@[reducible] noncomputable def F_Z29:Func := Tryz.f160
@[reducible] noncomputable def F_Z152:Func := Tryz.f161
@[reducible] noncomputable def F_Z145:Func := Tryz.f162
@[reducible] noncomputable def F_Z147:Func := Tryz.f163
@[reducible] noncomputable def F_Z155:Func := Tryz.f164
@[reducible] noncomputable def F_Z140:Func := Tryz.f165
@[reducible] noncomputable def F_Z128:Func := Tryz.f166
@[reducible] noncomputable def F_Z138:Func := Tryz.f167
@[reducible] noncomputable def F_Z15:Func := Tryz.f168
@[reducible] noncomputable def F_Z106:Func := Tryz.f169
@[reducible] noncomputable def F_Z37:Func := Tryz.f170
@[reducible] noncomputable def F_Z11:Func := Tryz.f171
@[reducible] noncomputable def F_Z71:Func := Tryz.f172
@[reducible] noncomputable def F_Z63:Func := Tryz.f173
@[reducible] noncomputable def F_Z34:Func := Tryz.f174
@[reducible] noncomputable def F_Z113:Func := Tryz.f175
@[reducible] noncomputable def F_Z62:Func := Tryz.f176
@[reducible] noncomputable def F_Z36:Func := Tryz.f177
@[reducible] noncomputable def F_Z136:Func := Tryz.f178
@[reducible] noncomputable def F_Z108:Func := Tryz.f179
@[reducible] noncomputable def F_Z55:Func := Tryz.f180
@[reducible] noncomputable def F_Z38:Func := Tryz.f182
@[reducible] noncomputable def F_Z70:Func := Tryz.f183
@[reducible] noncomputable def F_Z7:Func := Tryz.f184
@[reducible] noncomputable def F_Z105:Func := Tryz.f185
@[reducible] noncomputable def F_Z74:Func := Tryz.f187
@[reducible] noncomputable def F_Z101:Func := Tryz.f188
@[reducible] noncomputable def F_Z163:Func := Tryz.f189
@[reducible] noncomputable def F_Z157:Func := Tryz.f190
@[reducible] noncomputable def F_Z160:Func := Tryz.f191
@[reducible] noncomputable def F_Z162:Func := Tryz.f192
@[reducible] noncomputable def F_Z165:Func := Tryz.f193
@[reducible] noncomputable def F_Z141:Func := Tryz.f194
@[reducible] noncomputable def F_Z21:Func := Tryz.f195
@[reducible] noncomputable def F_Z23:Func := Tryz.f196
@[reducible] noncomputable def F_Z48:Func := Tryz.f197
@[reducible] noncomputable def F_Z60:Func := Tryz.f198
@[reducible] noncomputable def F_Z32:Func := Tryz.f199
@[reducible] noncomputable def F_Z9:Func := Tryz.f200
@[reducible] noncomputable def F_Z42:Func := Tryz.f201
@[reducible] noncomputable def F_Z132:Func := Tryz.f203
@[reducible] noncomputable def F_Z103:Func := Tryz.f207
@[reducible] noncomputable def F_Z2:Func := Tryz.f209
@[reducible] noncomputable def F_Z0:Func := Tryz.f210
@[reducible] noncomputable def F_Z104:Func := Tryz.f211
@[reducible] noncomputable def F_Z19:Func := Tryz.f212
@[reducible] noncomputable def F_Z30:Func := Tryz.f214
@[reducible] noncomputable def F_Z131:Func := Tryz.f215
@[reducible] noncomputable def F_Z135:Func := Tryz.f216
@[reducible] noncomputable def F_Z51:Func := Tryz.f217
@[reducible] noncomputable def F_Z16:Func := Tryz.f218
@[reducible] noncomputable def F_Z53:Func := Tryz.f219
@[reducible] noncomputable def F_Z116:Func := Tryz.f220
@[reducible] noncomputable def F_Z35:Func := Tryz.f221
@[reducible] noncomputable def F_Z17:Func := Tryz.f222
@[reducible] noncomputable def F_Z47:Func := Tryz.f223
@[reducible] noncomputable def F_Z119:Func := Tryz.f224
@[reducible] noncomputable def F_Z115:Func := Tryz.f225
@[reducible] noncomputable def F_Z139:Func := Tryz.f226
@[reducible] noncomputable def F_Z143:Func := Tryz.f227
@[reducible] noncomputable def F_Z22:Func := Tryz.f228
@[reducible] noncomputable def F_Z12:Func := Tryz.f229
@[reducible] noncomputable def F_Z61:Func := Tryz.f230
@[reducible] noncomputable def F_Z43:Func := Tryz.f231
@[reducible] noncomputable def F_Z3:Func := Tryz.f251
@[reducible] noncomputable def F_Z1:Func := Tryz.f252
@[reducible] noncomputable def F_Z20:Func := Tryz.f253
@[reducible] noncomputable def F_Z50:Func := Tryz.f254
@[reducible] noncomputable def F_Z57:Func := Tryz.f255
@[reducible] noncomputable def F_Z59:Func := Tryz.f256
@[reducible] noncomputable def F_Z52:Func := Tryz.f257
@[reducible] noncomputable def F_Z4:Func := Tryz.f263
@[reducible] noncomputable def F_Z58:Func := Tryz.f267
@[reducible] def o_Z75:Ty := (.cons .bool .nil)
noncomputable def sg_Z75:Sig := ⟨[(true,4),(false,1)],[],o_Z75,[(false,1)],[],[]⟩
@[reducible] def o_Z89:Ty := (.cons yI .nil)
noncomputable def sg_Z89:Sig := ⟨[(true,1),(false,1)],[],o_Z89,[(false,1)],[],[]⟩
@[reducible] def o_Z95:Ty := (.cons yK .nil)
noncomputable def sg_Z95:Sig := ⟨[(true,1)],[],o_Z95,[(true,1)],[.deep],[]⟩
@[reducible] def o_Z78:Ty := (.cons .bool .nil)
noncomputable def sg_Z78:Sig := ⟨[(false,1),(false,1)],[],o_Z78,[(false,1)],[],[]⟩
@[reducible] def o_Z76:Ty := (.cons .bool .nil)
noncomputable def sg_Z76:Sig := ⟨[(true,1),(true,1)],[],o_Z76,[(false,1)],[],[]⟩
@[reducible] def o_Z84:Ty := (.cons yI (.cons yK .nil))
noncomputable def sg_Z84:Sig := ⟨[(true,1),(false,1)],[.io true,.imm],o_Z84,[(false,1)],[],[]⟩
@[reducible] def o_Z86:Ty := (.cons yI (.cons yK .nil))
noncomputable def sg_Z86:Sig := ⟨[(false,1),(false,1)],[.io true,.imm],o_Z86,[(false,1)],[],[]⟩
@[reducible] def o_Z83:Ty := (.cons yI .nil)
noncomputable def sg_Z83:Sig := ⟨[(false,1),(false,1)],[],o_Z83,[(false,1)],[],[]⟩
@[reducible] def o_Z96:Ty := (.cons yL .nil)
noncomputable def sg_Z96:Sig := ⟨[(false,1)],[],o_Z96,[(false,1)],[.deep],[]⟩
@[reducible] def o_Z77:Ty := (.cons .bool .nil)
noncomputable def sg_Z77:Sig := ⟨[(false,1),(false,1)],[],o_Z77,[(false,1)],[],[]⟩
@[reducible] def o_Z85:Ty := (.cons yI (.cons yL .nil))
noncomputable def sg_Z85:Sig := ⟨[(false,1),(false,1)],[.io true,.imm],o_Z85,[(false,1)],[],[]⟩
@[reducible] def o_Z82:Ty := (.cons yI .nil)
noncomputable def sg_Z82:Sig := ⟨[(false,1),(false,1)],[],o_Z82,[(false,1)],[],[]⟩
@[reducible] def o_Z79:Ty := (.cons .bool .nil)
noncomputable def sg_Z79:Sig := ⟨[(true,4),(true,4)],[],o_Z79,[(false,1)],[],[]⟩
@[reducible] def o_Z94:Ty := (.cons yI .nil)
noncomputable def sg_Z94:Sig := ⟨[(true,4),(false,1)],[],o_Z94,[(false,1)],[],[]⟩
@[reducible] def o_Z100:Ty := yS
noncomputable def sg_Z100:Sig := ⟨[(true,4)],[],o_Z100,[(true,4)],[.deep,.imm,.deep,.deep],[]⟩
@[reducible] def o_Z81:Ty := (.cons .bool .nil)
noncomputable def sg_Z81:Sig := ⟨[(true,4),(true,4)],[],o_Z81,[(false,1)],[],[]⟩
@[reducible] def o_Z88:Ty := (.cons yI (.cons yK (.cons yL (.cons yN .nil))))
noncomputable def sg_Z88:Sig := ⟨[(true,4),(false,1)],[.io true,.imm,.io true,.io true,.imm],o_Z88,[(false,1)],[],[]⟩
@[reducible] def o_Z126:Ty := (.cons yK (.cons yI .nil))
noncomputable def sg_Z126:Sig := ⟨[(true,4),(false,1)],[],o_Z126,[(false,1),(false,1)],[.deep,.imm],[]⟩
@[reducible] def o_Z5:Ty := (.cons yK (.cons yI .nil))
noncomputable def sg_Z5:Sig := ⟨[(true,4),(false,1)],[],o_Z5,[(false,1),(false,1)],[.deep,.imm],[]⟩
@[reducible] def o_Z91:Ty := (.cons yI .nil)
noncomputable def sg_Z91:Sig := ⟨[(false,1),(false,1)],[],o_Z91,[(false,1)],[],[]⟩
@[reducible] def o_Z97:Ty := (.cons yK .nil)
noncomputable def sg_Z97:Sig := ⟨[(false,1)],[],o_Z97,[(false,1)],[.deep],[]⟩
@[reducible] def o_Z133:Ty := (.cons .bool .nil)
noncomputable def sg_Z133:Sig := ⟨[(false,1)],[],o_Z133,[(false,1)],[],[]⟩
@[reducible] def o_Z146:Ty := (.cons .bool .nil)
noncomputable def sg_Z146:Sig := ⟨[(false,1)],[],o_Z146,[(false,1)],[],[]⟩
@[reducible] def o_Z150:Ty := (.cons yL .nil)
noncomputable def sg_Z150:Sig := ⟨[(false,1),(false,1)],[],o_Z150,[(false,1)],[.deep],[(.ptr (.cons yK .nil))]⟩
@[reducible] def o_Z90:Ty := (.cons yI .nil)
noncomputable def sg_Z90:Sig := ⟨[(false,1),(false,1)],[],o_Z90,[(false,1)],[],[]⟩
@[reducible] def o_Z93:Ty := (.cons yI .nil)
noncomputable def sg_Z93:Sig := ⟨[(false,1),(false,1)],[],o_Z93,[(false,1)],[],[]⟩
@[reducible] def o_Z159:Ty := (.cons .bool .nil)
noncomputable def sg_Z159:Sig := ⟨[(false,1)],[],o_Z159,[(false,1)],[],[(.ptr yS)]⟩
@[reducible] def o_Z99:Ty := (.cons yN .nil)
noncomputable def sg_Z99:Sig := ⟨[(false,1)],[],o_Z99,[(false,1)],[.deep],[]⟩
@[reducible] def o_Z6:Ty := (.cons .bool .nil)
noncomputable def sg_Z6:Sig := ⟨[(true,4)],[],o_Z6,[(false,1)],[],[]⟩
@[reducible] def o_Z65:Ty := (.cons yI .nil)
noncomputable def sg_Z65:Sig := ⟨[(false,1)],[],o_Z65,[(false,1)],[],[]⟩
@[reducible] def o_Z26:Ty := (.cons yK .nil)
noncomputable def sg_Z26:Sig := ⟨[(true,4),(false,1)],[],o_Z26,[(false,1)],[.deep],[]⟩
@[reducible] def o_Z80:Ty := (.cons .bool .nil)
noncomputable def sg_Z80:Sig := ⟨[(false,1),(false,1)],[],o_Z80,[(false,1)],[],[]⟩
@[reducible] def o_Z87:Ty := (.cons yI (.cons yN .nil))
noncomputable def sg_Z87:Sig := ⟨[(false,1),(false,1)],[.io true,.imm],o_Z87,[(false,1)],[],[]⟩
@[reducible] def o_Z167:Ty := (.cons yI .nil)
noncomputable def sg_Z167:Sig := ⟨[(false,1),(false,1)],[],o_Z167,[(false,1)],[],[(.ptr yS)]⟩
@[reducible] def o_Z169:Ty := (.cons yK .nil)
noncomputable def sg_Z169:Sig := ⟨[(false,1),(false,1)],[],o_Z169,[(false,1)],[.deep],[(.ptr yS)]⟩
@[reducible] def o_Z44:Ty := (.cons yI .nil)
noncomputable def sg_Z44:Sig := ⟨[(true,4),(false,1)],[],o_Z44,[(false,1)],[],[]⟩
@[reducible] def o_Z130:Ty := (.cons yL .nil)
noncomputable def sg_Z130:Sig := ⟨[(false,1)],[],o_Z130,[(false,1)],[.deep],[]⟩
@[reducible] def o_Z170:Ty := yM
noncomputable def sg_Z170:Sig := ⟨[(false,1),(false,1)],[],o_Z170,[(true,4)],[.imm,.imm,.imm,.deep],[(.ptr yS)]⟩
@[reducible] def o_Z24:Ty := (.cons yI (.cons yI (.cons yK .nil)))
noncomputable def sg_Z24:Sig := ⟨[(true,4),(false,1)],[],o_Z24,[(true,3)],[.imm,.imm,.deep],[]⟩
@[reducible] def o_Z45:Ty := (.cons yK .nil)
noncomputable def sg_Z45:Sig := ⟨[(true,3),(false,1)],[.imm,.imm,.imm,.take true],o_Z45,[(false,1)],[.deep],[]⟩
@[reducible] def o_Z151:Ty := (.cons .bool .nil)
noncomputable def sg_Z151:Sig := ⟨[(false,1)],[],o_Z151,[(false,1)],[],[(.ptr (.cons yK .nil))]⟩
@[reducible] def o_Z127:Ty := (.cons .bool .nil)
noncomputable def sg_Z127:Sig := ⟨[(false,1)],[],o_Z127,[(false,1)],[],[]⟩
@[reducible] def o_Z153:Ty := (.cons yK .nil)
noncomputable def sg_Z153:Sig := ⟨[(true,4),(false,1)],[],o_Z153,[(false,1)],[.deep],[]⟩
@[reducible] def o_Z137:Ty := (.cons yK .nil)
noncomputable def sg_Z137:Sig := ⟨[(false,1)],[],o_Z137,[(false,1)],[.deep],[(.ptr yM)]⟩
@[reducible] def o_Z10:Ty := (.cons .bool .nil)
noncomputable def sg_Z10:Sig := ⟨[(true,1)],[],o_Z10,[(false,1)],[],[]⟩
@[reducible] def o_Z13:Ty := (.cons .bool .nil)
noncomputable def sg_Z13:Sig := ⟨[(false,1)],[],o_Z13,[(false,1)],[],[]⟩
@[reducible] def o_Z49:Ty := (.cons .bool .nil)
noncomputable def sg_Z49:Sig := ⟨[(false,1)],[],o_Z49,[(false,1)],[],[]⟩
@[reducible] def o_Z64:Ty := (.cons yL .nil)
noncomputable def sg_Z64:Sig := ⟨[(true,1),(false,1)],[],o_Z64,[(false,1)],[.deep],[]⟩
@[reducible] def o_Z56:Ty := (.cons yK .nil)
noncomputable def sg_Z56:Sig := ⟨[(true,4)],[],o_Z56,[(false,1)],[.deep],[]⟩
@[reducible] def o_Z134:Ty := (.cons .bool .nil)
noncomputable def sg_Z134:Sig := ⟨[(false,1),(false,1),(false,1)],[],o_Z134,[(false,1)],[],[]⟩
@[reducible] def o_Z156:Ty := yM
noncomputable def sg_Z156:Sig := ⟨[(false,1),(false,1)],[],o_Z156,[(true,4)],[.imm,.imm,.imm,.deep],[(.ptr yM)]⟩
@[reducible] def o_Z142:Ty := (.cons yL (.cons .bool .nil))
noncomputable def sg_Z142:Sig := ⟨[(false,1),(false,1)],[],o_Z142,[(false,1),(false,1)],[.deep,.imm],[(.ptr yM)]⟩
@[reducible] def o_Z144:Ty := yM
noncomputable def sg_Z144:Sig := ⟨[(false,1),(false,1),(false,1)],[],o_Z144,[(true,4)],[.imm,.imm,.imm,.deep],[]⟩
@[reducible] def o_Z148:Ty := (.cons yL .nil)
noncomputable def sg_Z148:Sig := ⟨[(false,1),(false,1)],[],o_Z148,[(false,1)],[.deep],[(.ptr (.cons yK .nil))]⟩
@[reducible] def o_Z154:Ty := (.cons yI .nil)
noncomputable def sg_Z154:Sig := ⟨[(false,1),(false,1)],[],o_Z154,[(false,1)],[],[]⟩
@[reducible] def o_Z54:Ty := (.cons .bool .nil)
noncomputable def sg_Z54:Sig := ⟨[(false,1)],[],o_Z54,[(false,1)],[],[]⟩
@[reducible] def o_Z69:Ty := yM
noncomputable def sg_Z69:Sig := ⟨[(true,4)],[],o_Z69,[(true,4)],[.imm,.imm,.imm,.deep],[]⟩
@[reducible] def o_Z67:Ty := (.cons yI (.cons yI (.cons yK .nil)))
noncomputable def sg_Z67:Sig := ⟨[(false,1),(false,1),(false,1)],[],o_Z67,[(true,3)],[.imm,.imm,.deep],[]⟩
@[reducible] def o_Z27:Ty := (.cons yK .nil)
noncomputable def sg_Z27:Sig := ⟨[(true,4)],[],o_Z27,[(false,1)],[.deep],[]⟩
@[reducible] def o_Z129:Ty := (.cons .bool .nil)
noncomputable def sg_Z129:Sig := ⟨[(false,1),(false,1),(false,1)],[],o_Z129,[(false,1)],[],[]⟩
@[reducible] def o_Z73:Ty := yM
noncomputable def sg_Z73:Sig := ⟨[(false,1),(false,1),(false,1)],[],o_Z73,[(true,4)],[.imm,.imm,.imm,.deep],[]⟩
@[reducible] def o_Z66:Ty := (.cons yI .nil)
noncomputable def sg_Z66:Sig := ⟨[(false,1)],[],o_Z66,[(false,1)],[],[]⟩
@[reducible] def o_Z125:Ty := (.cons yI .nil)
noncomputable def sg_Z125:Sig := ⟨[(false,1),(false,1)],[],o_Z125,[(false,1)],[],[]⟩
@[reducible] def o_Z46:Ty := (.cons yI .nil)
noncomputable def sg_Z46:Sig := ⟨[(true,1),(false,1)],[],o_Z46,[(false,1)],[],[]⟩
@[reducible] def o_Z18:Ty := (.cons yI .nil)
noncomputable def sg_Z18:Sig := ⟨[(false,1),(false,1)],[],o_Z18,[(false,1)],[],[]⟩
@[reducible] def o_Z92:Ty := (.cons yI .nil)
noncomputable def sg_Z92:Sig := ⟨[(true,4),(false,1)],[],o_Z92,[(false,1)],[],[]⟩
@[reducible] def o_Z161:Ty := (.cons .bool .nil)
noncomputable def sg_Z161:Sig := ⟨[(false,1)],[],o_Z161,[(false,1)],[],[(.ptr yS)]⟩
@[reducible] def o_Z166:Ty := (.cons yI (.cons yI (.cons yI .nil)))
noncomputable def sg_Z166:Sig := ⟨[(false,1)],[],o_Z166,[(false,1),(false,1),(false,1)],[],[(.ptr yS)]⟩
@[reducible] def o_Z98:Ty := yM
noncomputable def sg_Z98:Sig := ⟨[(true,4)],[],o_Z98,[(true,4)],[.imm,.imm,.imm,.deep],[]⟩
@[reducible] def o_Z14:Ty := (.cons .bool .nil)
noncomputable def sg_Z14:Sig := ⟨[(true,4)],[],o_Z14,[(false,1)],[],[]⟩
@[reducible] def o_Z72:Ty := (.cons yI (.cons yI (.cons .bool .nil)))
noncomputable def sg_Z72:Sig := ⟨[(true,4)],[],o_Z72,[(false,1),(false,1),(false,1)],[],[]⟩
@[reducible] def o_Z25:Ty := yM
noncomputable def sg_Z25:Sig := ⟨[(true,4),(false,1)],[],o_Z25,[(true,4)],[.imm,.imm,.imm,.deep],[]⟩
@[reducible] def o_Z149:Ty := (.cons yI .nil)
noncomputable def sg_Z149:Sig := ⟨[(false,1),(false,1)],[],o_Z149,[(false,1)],[],[(.ptr (.cons yK .nil))]⟩
@[reducible] def o_Z31:Ty := (.cons yK .nil)
noncomputable def sg_Z31:Sig := ⟨[(false,1)],[],o_Z31,[(false,1)],[.deep],[]⟩
@[reducible] def o_Z28:Ty := (.cons yI .nil)
noncomputable def sg_Z28:Sig := ⟨[(false,1),(false,1)],[],o_Z28,[(false,1)],[],[]⟩
@[reducible] def o_Z114:Ty := (.cons .bool .nil)
noncomputable def sg_Z114:Sig := ⟨[(false,1),(false,1)],[],o_Z114,[(false,1)],[],[]⟩
@[reducible] def o_Z164:Ty := (.cons yI .nil)
noncomputable def sg_Z164:Sig := ⟨[(false,1),(false,1),(false,1)],[],o_Z164,[(false,1)],[],[(.ptr (.cons yK .nil))]⟩
@[reducible] def o_Z168:Ty := (.cons yI .nil)
noncomputable def sg_Z168:Sig := ⟨[(false,1),(false,1)],[],o_Z168,[(false,1)],[],[(.ptr yS)]⟩
@[reducible] def o_Z158:Ty := (.cons (.ptr yM) .nil)
noncomputable def sg_Z158:Sig := ⟨[(false,1),(false,1),(false,1)],[],o_Z158,[(false,1)],[],[(.ptr yS)]⟩
@[reducible] def o_Z68:Ty := (.cons yI .nil)
noncomputable def sg_Z68:Sig := ⟨[(true,4),(false,1)],[],o_Z68,[(false,1)],[],[]⟩
@[reducible] def o_Z33:Ty := (.cons yI .nil)
noncomputable def sg_Z33:Sig := ⟨[(false,1),(false,1),(false,1)],[],o_Z33,[(false,1)],[],[]⟩
@[reducible] def o_Z8:Ty := (.cons yL .nil)
noncomputable def sg_Z8:Sig := ⟨[(true,4),(false,1)],[],o_Z8,[(false,1)],[],[]⟩
@[reducible] def o_Z29:Ty := (.cons .bool .nil)
noncomputable def sg_Z29:Sig := ⟨[(true,3),(false,1)],[],o_Z29,[(false,1)],[],[]⟩
@[reducible] def o_Z152:Ty := (.cons .bool .nil)
noncomputable def sg_Z152:Sig := ⟨[(false,1)],[],o_Z152,[(false,1)],[],[]⟩
@[reducible] def o_Z145:Ty := (.cons .bool .nil)
noncomputable def sg_Z145:Sig := ⟨[(false,1),(false,1)],[],o_Z145,[(false,1)],[],[]⟩
@[reducible] def o_Z147:Ty := (.cons yL .nil)
noncomputable def sg_Z147:Sig := ⟨[(false,1),(false,1)],[],o_Z147,[(false,1)],[.deep],[]⟩
@[reducible] def o_Z155:Ty := (.cons .bool .nil)
noncomputable def sg_Z155:Sig := ⟨[(false,1),(false,1)],[],o_Z155,[(false,1)],[],[(.ptr yM)]⟩
@[reducible] def o_Z140:Ty := (.cons yI (.cons yI (.cons yI (.cons yL (.cons yL (.cons yI .nil))))))
noncomputable def sg_Z140:Sig := ⟨[(false,1)],[],o_Z140,[(true,4),(false,1),(false,1)],[.imm,.imm,.imm,.deep,.deep,.imm],[(.ptr yM)]⟩
@[reducible] def o_Z128:Ty := (.cons .bool .nil)
noncomputable def sg_Z128:Sig := ⟨[(false,1),(false,1)],[],o_Z128,[(false,1)],[],[]⟩
@[reducible] def o_Z138:Ty := (.cons yI .nil)
noncomputable def sg_Z138:Sig := ⟨[(false,1),(false,1)],[],o_Z138,[(false,1)],[],[]⟩
@[reducible] def o_Z15:Ty := (.cons .bool .nil)
noncomputable def sg_Z15:Sig := ⟨[(false,1)],[],o_Z15,[(false,1)],[],[]⟩
@[reducible] def o_Z106:Ty := (.cons .bool .nil)
noncomputable def sg_Z106:Sig := ⟨[(false,1),(false,1)],[],o_Z106,[(false,1)],[],[]⟩
@[reducible] def o_Z37:Ty := (.cons yK .nil)
noncomputable def sg_Z37:Sig := ⟨[(false,1)],[],o_Z37,[(false,1)],[.deep],[]⟩
@[reducible] def o_Z11:Ty := (.cons .bool .nil)
noncomputable def sg_Z11:Sig := ⟨[(false,1),(false,1),(false,1)],[],o_Z11,[(false,1)],[],[.nil,(.ptr (.cons yK .nil)),(.ptr (.cons yI .nil))]⟩
@[reducible] def o_Z71:Ty := (.cons .bool .nil)
noncomputable def sg_Z71:Sig := ⟨[(false,1),(false,1),(false,1)],[],o_Z71,[(false,1)],[],[]⟩
@[reducible] def o_Z63:Ty := (.cons yK .nil)
noncomputable def sg_Z63:Sig := ⟨[(true,4)],[],o_Z63,[(false,1)],[.deep],[]⟩
@[reducible] def o_Z34:Ty := (.cons yL (.cons yI (.cons yK .nil)))
noncomputable def sg_Z34:Sig := ⟨[(false,1),(false,1),(false,1)],[.io false,.imm,.imm],o_Z34,[(false,1),(false,1)],[.deep,.imm],[]⟩
@[reducible] def o_Z113:Ty := (.cons .bool .nil)
noncomputable def sg_Z113:Sig := ⟨[(false,1),(false,1)],[],o_Z113,[(false,1)],[],[]⟩
@[reducible] def o_Z62:Ty := (.cons yI .nil)
noncomputable def sg_Z62:Sig := ⟨[(false,1),(false,1)],[],o_Z62,[(false,1)],[],[]⟩
@[reducible] def o_Z36:Ty := (.cons yL .nil)
noncomputable def sg_Z36:Sig := ⟨[(true,1),(false,1)],[],o_Z36,[(false,1)],[.deep],[]⟩
@[reducible] def o_Z136:Ty := yM
noncomputable def sg_Z136:Sig := ⟨[(false,1),(false,1)],[],o_Z136,[(true,4)],[.imm,.imm,.imm,.deep],[(.ptr yM),(.ptr yM)]⟩
@[reducible] def o_Z108:Ty := (.cons .bool .nil)
noncomputable def sg_Z108:Sig := ⟨[(false,1),(false,1)],[],o_Z108,[(false,1)],[],[]⟩
@[reducible] def o_Z55:Ty := (.cons .bool .nil)
noncomputable def sg_Z55:Sig := ⟨[(false,1)],[],o_Z55,[(false,1)],[],[]⟩
@[reducible] def o_Z38:Ty := yM
noncomputable def sg_Z38:Sig := ⟨[(false,1),(false,1),(false,1),(false,1)],[],o_Z38,[(true,4)],[.imm,.imm,.imm,.deep],[]⟩
@[reducible] def o_Z70:Ty := (.cons yI .nil)
noncomputable def sg_Z70:Sig := ⟨[(false,1),(false,1),(false,1)],[],o_Z70,[(false,1)],[],[.nil,.nil,(.ptr yM)]⟩
@[reducible] def o_Z7:Ty := (.cons yI .nil)
noncomputable def sg_Z7:Sig := ⟨[(true,4),(false,1),(false,1)],[],o_Z7,[(false,1)],[],[]⟩
@[reducible] def o_Z105:Ty := (.cons yL .nil)
noncomputable def sg_Z105:Sig := ⟨[(false,1)],[],o_Z105,[(false,1)],[.deep],[]⟩
@[reducible] def o_Z74:Ty := (.cons yI .nil)
noncomputable def sg_Z74:Sig := ⟨[(false,1),(false,1)],[],o_Z74,[(false,1)],[],[]⟩
@[reducible] def o_Z101:Ty := (.cons yI (.cons .bool .nil))
noncomputable def sg_Z101:Sig := ⟨[(false,1),(false,1),(false,1)],[],o_Z101,[(false,1),(false,1)],[],[]⟩
@[reducible] def o_Z163:Ty := (.cons .bool .nil)
noncomputable def sg_Z163:Sig := ⟨[(false,1),(false,1)],[],o_Z163,[(false,1)],[],[(.ptr (.cons yK .nil))]⟩
@[reducible] def o_Z157:Ty := (.cons yI .nil)
noncomputable def sg_Z157:Sig := ⟨[(false,1)],[],o_Z157,[(false,1)],[],[(.ptr (.cons yK .nil))]⟩
@[reducible] def o_Z160:Ty := (.cons .bool .nil)
noncomputable def sg_Z160:Sig := ⟨[(false,1),(false,1),(false,1),(false,1)],[],o_Z160,[(false,1)],[],[(.ptr yS),.nil,.nil,(.ptr yM)]⟩
@[reducible] def o_Z162:Ty := (.cons yI .nil)
noncomputable def sg_Z162:Sig := ⟨[(false,1),(false,1),(false,1)],[],o_Z162,[(false,1)],[],[(.ptr (.cons yK .nil))]⟩
@[reducible] def o_Z165:Ty := yM
noncomputable def sg_Z165:Sig := ⟨[(false,1),(false,1),(false,1),(false,1)],[],o_Z165,[(true,4)],[.imm,.imm,.imm,.deep],[(.ptr yS)]⟩
@[reducible] def o_Z141:Ty := (.cons .bool .nil)
noncomputable def sg_Z141:Sig := ⟨[(false,1),(false,1)],[],o_Z141,[(false,1)],[],[(.ptr yM),(.ptr yM)]⟩
@[reducible] def o_Z21:Ty := (.cons .bool .nil)
noncomputable def sg_Z21:Sig := ⟨[(true,1),(false,1)],[],o_Z21,[(false,1)],[],[]⟩
@[reducible] def o_Z23:Ty := (.cons (.sl (.st (.cons yI (.cons yI (.cons yI .nil))))) .nil)
noncomputable def sg_Z23:Sig := ⟨[(true,1)],[],o_Z23,[(false,1)],[.deep],[]⟩
@[reducible] def o_Z48:Ty := (.cons .bool .nil)
noncomputable def sg_Z48:Sig := ⟨[(true,4),(false,1),(false,1),(false,1)],[],o_Z48,[(false,1)],[],[]⟩
@[reducible] def o_Z60:Ty := yM
noncomputable def sg_Z60:Sig := ⟨[(true,4),(true,4)],[],o_Z60,[(true,4)],[.imm,.imm,.imm,.deep],[]⟩
@[reducible] def o_Z32:Ty := yM
noncomputable def sg_Z32:Sig := ⟨[(true,4),(false,1),(false,1)],[],o_Z32,[(true,4)],[],[]⟩
@[reducible] def o_Z9:Ty := (.cons .bool .nil)
noncomputable def sg_Z9:Sig := ⟨[(true,4),(true,4)],[],o_Z9,[(false,1)],[],[]⟩
@[reducible] def o_Z42:Ty := (.cons yI .nil)
noncomputable def sg_Z42:Sig := ⟨[(true,4),(false,1)],[],o_Z42,[(false,1)],[],[]⟩
@[reducible] def o_Z132:Ty := (.cons .bool .nil)
noncomputable def sg_Z132:Sig := ⟨[(false,1),(false,1)],[],o_Z132,[(false,1)],[],[]⟩
@[reducible] def o_Z103:Ty := (.cons yL .nil)
noncomputable def sg_Z103:Sig := ⟨[(false,1)],[],o_Z103,[(false,1)],[.deep],[]⟩
@[reducible] def o_Z2:Ty := (.cons yI .nil)
noncomputable def sg_Z2:Sig := ⟨[(false,1)],[],o_Z2,[(false,1)],[],[]⟩
@[reducible] def o_Z0:Ty := (.cons yI .nil)
noncomputable def sg_Z0:Sig := ⟨[(false,1),(false,1)],[],o_Z0,[(false,1)],[],[]⟩
@[reducible] def o_Z104:Ty := (.cons yI .nil)
noncomputable def sg_Z104:Sig := ⟨[(false,1),(false,1)],[],o_Z104,[(false,1)],[],[]⟩
@[reducible] def o_Z19:Ty := (.cons .bool .nil)
noncomputable def sg_Z19:Sig := ⟨[(false,1),(false,1)],[],o_Z19,[(false,1)],[],[]⟩
@[reducible] def o_Z30:Ty := (.cons yL (.cons .bool .nil))
noncomputable def sg_Z30:Sig := ⟨[(true,3),(false,1)],[],o_Z30,[(false,1),(false,1)],[.deep,.imm],[]⟩
@[reducible] def o_Z131:Ty := (.cons .bool .nil)
noncomputable def sg_Z131:Sig := ⟨[(false,1),(false,1),(false,1)],[],o_Z131,[(false,1)],[],[]⟩
@[reducible] def o_Z135:Ty := (.cons yI .nil)
noncomputable def sg_Z135:Sig := ⟨[(false,1),(false,1)],[],o_Z135,[(false,1)],[],[]⟩
@[reducible] def o_Z51:Ty := (.cons .bool .nil)
noncomputable def sg_Z51:Sig := ⟨[(false,1)],[],o_Z51,[(false,1)],[],[]⟩
@[reducible] def o_Z16:Ty := (.cons .bool .nil)
noncomputable def sg_Z16:Sig := ⟨[(false,1)],[],o_Z16,[(false,1)],[],[]⟩
@[reducible] def o_Z53:Ty := (.cons .bool .nil)
noncomputable def sg_Z53:Sig := ⟨[(false,1)],[],o_Z53,[(false,1)],[],[]⟩
@[reducible] def o_Z116:Ty := (.cons yI .nil)
noncomputable def sg_Z116:Sig := ⟨[(false,1),(false,1)],[],o_Z116,[(false,1)],[],[]⟩
@[reducible] def o_Z35:Ty := (.cons .bool .nil)
noncomputable def sg_Z35:Sig := ⟨[(false,1),(false,1)],[],o_Z35,[(false,1)],[],[.nil,(.ptr (.cons yI .nil))]⟩
@[reducible] def o_Z17:Ty := (.cons yL .nil)
noncomputable def sg_Z17:Sig := ⟨[(false,1),(false,1),(false,1),(false,1)],[],o_Z17,[(false,1)],[.deep],[]⟩
@[reducible] def o_Z47:Ty := (.cons yI .nil)
noncomputable def sg_Z47:Sig := ⟨[(false,1),(false,1)],[],o_Z47,[(false,1)],[],[]⟩
@[reducible] def o_Z119:Ty := (.cons yI .nil)
noncomputable def sg_Z119:Sig := ⟨[(false,1),(false,1)],[],o_Z119,[(false,1)],[],[]⟩
@[reducible] def o_Z115:Ty := (.cons yL .nil)
noncomputable def sg_Z115:Sig := ⟨[(false,1),(false,1)],[.take true,.imm],o_Z115,[(false,1)],[.deep],[]⟩
@[reducible] def o_Z139:Ty := (.cons .bool .nil)
noncomputable def sg_Z139:Sig := ⟨[(false,1)],[],o_Z139,[(false,1)],[],[(.ptr yM)]⟩
@[reducible] def o_Z143:Ty := yM
noncomputable def sg_Z143:Sig := ⟨[(false,1),(false,1)],[],o_Z143,[(true,4)],[.imm,.imm,.imm,.deep],[(.ptr yM),(.ptr yM)]⟩
@[reducible] def o_Z22:Ty := (.cons .bool .nil)
noncomputable def sg_Z22:Sig := ⟨[(false,1)],[],o_Z22,[(false,1)],[],[]⟩
@[reducible] def o_Z12:Ty := (.cons .bool .nil)
noncomputable def sg_Z12:Sig := ⟨[(true,4)],[],o_Z12,[(false,1)],[],[]⟩
@[reducible] def o_Z61:Ty := (.cons yI .nil)
noncomputable def sg_Z61:Sig := ⟨[(false,1),(false,1),(false,1),(false,1)],[],o_Z61,[(false,1)],[],[.nil,.nil,(.ptr yM),(.ptr (.cons yK .nil))]⟩
@[reducible] def o_Z43:Ty := (.cons yI .nil)
noncomputable def sg_Z43:Sig := ⟨[(true,4),(false,1)],[],o_Z43,[(false,1)],[],[]⟩
@[reducible] def o_Z3:Ty := (.cons .bool .nil)
noncomputable def sg_Z3:Sig := ⟨[(false,1)],[],o_Z3,[(false,1)],[],[]⟩
@[reducible] def o_Z1:Ty := (.cons yI .nil)
noncomputable def sg_Z1:Sig := ⟨[(false,1),(false,1)],[],o_Z1,[(false,1)],[],[]⟩
@[reducible] def o_Z20:Ty := (.cons .bool .nil)
noncomputable def sg_Z20:Sig := ⟨[(false,1),(false,1)],[],o_Z20,[(false,1)],[],[.nil,(.ptr (.cons yI .nil))]⟩
@[reducible] def o_Z50:Ty := (.cons .bool .nil)
noncomputable def sg_Z50:Sig := ⟨[(false,1),(false,1)],[],o_Z50,[(false,1)],[],[]⟩
@[reducible] def o_Z57:Ty := (.cons yL .nil)
noncomputable def sg_Z57:Sig := ⟨[(true,3)],[],o_Z57,[(false,1)],[.deep],[]⟩
@[reducible] def o_Z59:Ty := (.cons yI .nil)
noncomputable def sg_Z59:Sig := ⟨[(false,1),(false,1),(false,1)],[],o_Z59,[(false,1)],[],[]⟩
@[reducible] def o_Z52:Ty := (.cons .bool .nil)
noncomputable def sg_Z52:Sig := ⟨[(false,1)],[],o_Z52,[(false,1)],[],[]⟩
@[reducible] def o_Z4:Ty := (.cons .bool .nil)
noncomputable def sg_Z4:Sig := ⟨[(false,1)],[],o_Z4,[(false,1)],[],[]⟩
@[reducible] def o_Z58:Ty := (.cons .bool .nil)
noncomputable def sg_Z58:Sig := ⟨[(false,1)],[],o_Z58,[(false,1)],[],[]⟩
noncomputable def pol_Z75:Pol := ⟨110,[(29,[some 106,none,some 107,some 108]),(33,[some 109])],[],[],[(1000044,⟨[1,2,6,7,8,9,10,44],[2,8,106,107,108,109],[],[],[],[],[]⟩),(1000065,⟨[1,2,6,7,9,65],[2,109],[],[],[],[],[]⟩),(1000092,⟨[9,12,92],[109],[],[],[],[],[]⟩)],[]⟩
noncomputable def pol_Z89:Pol := ⟨14,[],[],[],[],[]⟩
noncomputable def pol_Z95:Pol := ⟨11,[(6,[some 10])],[],[],[],[]⟩
noncomputable def pol_Z78:Pol := ⟨29,[],[(4,⟨[0,1,5],[],[],[],[],[],[]⟩)],[],[],[]⟩
noncomputable def pol_Z76:Pol := ⟨13,[],[],[],[],[]⟩
noncomputable def pol_Z84:Pol := ⟨12,[],[],[],[],[]⟩
noncomputable def pol_Z83:Pol := ⟨23,[],[(2,⟨[0,1,5],[],[],[],[],[],[]⟩)],[],[],[]⟩
noncomputable def pol_Z96:Pol := ⟨23,[],[(3,⟨[0,3,4],[7],[],[],[],[],[]⟩)],[],[],[]⟩
noncomputable def pol_Z77:Pol := ⟨28,[],[(4,⟨[0,1,5],[],[],[],[],[],[]⟩)],[],[],[]⟩
noncomputable def pol_Z85:Pol := ⟨21,[],[(2,⟨[0,1,5],[19],[],[],[],[],[]⟩)],[],[],[]⟩
noncomputable def pol_Z82:Pol := ⟨23,[],[(2,⟨[0,1,5],[],[],[],[],[],[]⟩)],[],[],[]⟩
noncomputable def pol_Z79:Pol := ⟨34,[],[],[],[],[]⟩
noncomputable def pol_Z94:Pol := ⟨29,[],[],[],[],[]⟩
noncomputable def pol_Z100:Pol := ⟨27,[(6,[some 24]),(13,[some 25]),(17,[some 26])],[],[],[],[]⟩
noncomputable def pol_Z81:Pol := ⟨36,[],[],[],[],[]⟩
noncomputable def pol_Z88:Pol := ⟨23,[],[],[],[],[]⟩
noncomputable def pol_Z126:Pol := ⟨20,[(13,[some 19])],[],[],[],[]⟩
noncomputable def pol_Z5:Pol := ⟨22,[(15,[some 21])],[],[],[],[]⟩
noncomputable def pol_Z91:Pol := ⟨29,[],[(5,⟨[0,1,5],[],[],[],[],[],[]⟩)],[],[],[]⟩
noncomputable def pol_Z97:Pol := ⟨25,[(20,[some 24])],[(3,⟨[0,3,4],[7],[],[],[],[],[]⟩)],[],[],[]⟩
noncomputable def pol_Z133:Pol := ⟨19,[],[(4,⟨[0,3],[],[],[],[],[],[]⟩)],[],[],[]⟩
noncomputable def pol_Z146:Pol := ⟨6,[],[],[],[],[]⟩
noncomputable def pol_Z150:Pol := ⟨35,[],[(3,⟨[0,1,5,6],[7],[],[],[],[],[]⟩)],[],[],[]⟩
noncomputable def pol_Z90:Pol := ⟨14,[],[],[],[],[]⟩
noncomputable def pol_Z93:Pol := ⟨29,[],[(5,⟨[0,1,5],[],[],[],[],[],[]⟩)],[],[],[]⟩
noncomputable def pol_Z159:Pol := ⟨18,[],[],[],[],[]⟩
noncomputable def pol_Z99:Pol := ⟨25,[(20,[none,none,none,some 24])],[(3,⟨[0,3,4],[7],[],[],[],[],[]⟩)],[],[],[]⟩
noncomputable def pol_Z6:Pol := ⟨21,[],[],[],[],[]⟩
noncomputable def pol_Z65:Pol := ⟨6,[],[],[],[],[]⟩
noncomputable def pol_Z26:Pol := ⟨20,[(11,[some 18]),(12,[some 19])],[],[],[],[]⟩
noncomputable def pol_Z80:Pol := ⟨29,[],[(4,⟨[0,1,5],[],[],[],[],[],[]⟩)],[],[],[]⟩
noncomputable def pol_Z167:Pol := ⟨13,[],[],[],[],[]⟩
noncomputable def pol_Z169:Pol := ⟨18,[(14,[some 17])],[],[],[],[]⟩
noncomputable def pol_Z44:Pol := ⟨18,[],[],[],[],[]⟩
noncomputable def pol_Z130:Pol := ⟨7,[],[],[],[],[]⟩
noncomputable def pol_Z170:Pol := ⟨149,[(39,[none,none,none,some 148])],[(4,⟨[0,1,4,5,6,7],[4,5,148],[],[],[],[],[]⟩),(9,⟨[0,1,4,5,6,7,8,9,10],[4,5,148],[],[],[],[],[]⟩),(15,⟨[0,1,4,5,6,7,8,9,10,11,12,13,14],[4,5,148],[],[],[],[],[]⟩),(18,⟨[0,1,4,5,6,7,8,9,10,11,12,13,14,15],[4,5,148],[],[],[],[],[]⟩)],[],[(2,⟨[0,1,4,5],[4,5,148],[],[],[],[],[]⟩),(1000053,⟨[0,1,4,5,6,7,53],[4,5,148],[],[],[],[],[]⟩)],[]⟩
noncomputable def pol_Z24:Pol := ⟨23,[(16,[none,none,some 22])],[],[],[],[]⟩
noncomputable def pol_Z151:Pol := ⟨66,[],[(4,⟨[0,3],[],[],[],[],[],[]⟩),(10,⟨[0,3,4,5],[],[],[],[],[],[]⟩)],[],[(1000047,⟨[0,3,4,47],[],[],[],[],[],[]⟩),(1000056,⟨[0,3,4,5,56],[],[],[],[],[],[]⟩)],[]⟩
noncomputable def pol_Z127:Pol := ⟨6,[],[],[],[],[]⟩
noncomputable def pol_Z153:Pol := ⟨40,[(25,[some 39])],[(3,⟨[1,2,5,6],[2,7],[],[],[],[],[]⟩)],[],[],[]⟩
noncomputable def pol_Z137:Pol := ⟨72,[],[(4,⟨[0,3,4,6,7],[3,16],[],[],[],[],[]⟩),(10,⟨[0,3,4,6,7,8,9],[3,16,32],[],[],[],[],[]⟩)],[],[],[]⟩
noncomputable def pol_Z10:Pol := ⟨41,[],[(2,⟨[1,6,7,8],[1],[],[],[1],[],[]⟩)],[],[(1000030,⟨[1,3,4,6,7,8,30],[1,3],[],[],[],[],[]⟩)],[]⟩
noncomputable def pol_Z13:Pol := ⟨19,[],[(4,⟨[0,3],[],[],[],[],[],[]⟩)],[],[],[]⟩
noncomputable def pol_Z49:Pol := ⟨6,[],[],[],[],[]⟩
noncomputable def pol_Z64:Pol := ⟨29,[],[(3,⟨[1,5,9,10,11],[24],[(5,24,yI,true)],[],[],[],[]⟩)],[],[],[]⟩
noncomputable def pol_Z56:Pol := ⟨69,[(12,[some 68])],[(5,⟨[1,3,4,6,23,24],[1,61,68],[(6,61,yL,true)],[],[],[],[]⟩),(11,⟨[1,3,4,6,7,8,23,24,36,37,38],[1,32,61,68],[],[],[],[],[]⟩)],[],[],[]⟩
noncomputable def pol_Z134:Pol := ⟨29,[],[(2,⟨[0,1,2,7],[],[],[],[],[],[]⟩)],[],[],[]⟩
noncomputable def pol_Z156:Pol := ⟨21,[(17,[none,none,none,some 20])],[],[],[],[]⟩
noncomputable def pol_Z142:Pol := ⟨72,[],[(6,⟨[0,7,8,9,11,12],[7,8,34],[],[],[],[],[]⟩)],[],[],[]⟩
noncomputable def pol_Z144:Pol := ⟨18,[],[],[],[],[]⟩
noncomputable def pol_Z148:Pol := ⟨38,[],[(4,⟨[0,5,6,7],[15],[],[],[],[],[]⟩)],[],[(1000024,⟨[0,5,6,7,24],[15],[],[],[],[],[]⟩)],[]⟩
noncomputable def pol_Z154:Pol := ⟨14,[],[],[],[],[]⟩
noncomputable def pol_Z54:Pol := ⟨7,[],[],[],[],[]⟩
noncomputable def pol_Z69:Pol := ⟨16,[(10,[none,none,none,some 15])],[],[],[],[]⟩
noncomputable def pol_Z67:Pol := ⟨32,[(11,[some 30]),(25,[some 31])],[],[],[],[]⟩
noncomputable def pol_Z27:Pol := ⟨11,[(5,[some 10])],[],[],[],[]⟩
noncomputable def pol_Z129:Pol := ⟨18,[],[],[],[],[]⟩
noncomputable def pol_Z73:Pol := ⟨15,[(10,[none,none,none,some 14])],[],[],[],[]⟩
noncomputable def pol_Z66:Pol := ⟨6,[],[],[],[],[]⟩
noncomputable def pol_Z125:Pol := ⟨21,[],[(2,⟨[0,1,7,8],[],[],[],[],[],[]⟩)],[],[],[]⟩
noncomputable def pol_Z46:Pol := ⟨19,[],[],[],[],[]⟩
noncomputable def pol_Z18:Pol := ⟨12,[],[],[],[],[]⟩
noncomputable def pol_Z92:Pol := ⟨17,[],[],[],[],[]⟩
noncomputable def pol_Z161:Pol := ⟨93,[],[(4,⟨[0,3],[],[],[],[],[],[]⟩),(7,⟨[0,3,4],[],[],[],[],[],[]⟩)],[],[(1000040,⟨[0,40],[],[],[],[],[],[]⟩),(1000073,⟨[0,3,4,73],[],[],[],[],[],[]⟩)],[]⟩
noncomputable def pol_Z166:Pol := ⟨62,[],[(2,⟨[0,5],[],[],[],[],[],[]⟩),(6,⟨[0,5,6,7],[],[],[],[],[],[]⟩),(9,⟨[0,5,6,7,8],[],[],[],[],[],[]⟩)],[],[(1000036,⟨[0,5,6,7,36],[],[],[],[],[],[]⟩)],[]⟩
noncomputable def pol_Z98:Pol := ⟨23,[(15,[some 22])],[],[],[],[]⟩
noncomputable def pol_Z14:Pol := ⟨73,[],[(5,⟨[1,3,27,28,29],[1],[],[],[],[],[]⟩)],[],[(1000023,⟨[1,23],[1],[],[],[],[],[]⟩),(1000061,⟨[1,3,27,28,29,61],[1],[],[],[],[],[]⟩)],[]⟩
noncomputable def pol_Z72:Pol := ⟨90,[],[(2,⟨[1,15,16,17],[1],[],[],[],[],[]⟩),(8,⟨[1,6,7,8,15,16,17,31,32],[1],[],[],[],[],[]⟩),(11,⟨[1,6,7,8,9,10,15,16,17,31,32],[1],[],[],[],[],[]⟩)],[],[(14,⟨[1,6,7,8,9,10,11,15,16,17,31,32],[1,11],[],[],[],[],[]⟩),(15,⟨[1,6,7,8,9,10,11,12,15,16,17,31,32],[1,11,12],[],[],[],[],[]⟩)],[]⟩
noncomputable def pol_Z25:Pol := ⟨103,[(24,[none,none,none,some 102])],[(3,⟨[1,2,4,5,29,30,31],[2,4,5,102],[],[],[],[],[]⟩),(7,⟨[1,2,4,5,7,29,30,31,40,41,42],[2,4,5,102],[],[],[],[],[]⟩),(12,⟨[1,2,4,5,7,8,10,11,12,29,30,31,40,41,42,58,59],[2,4,5,10,102],[],[],[],[],[]⟩),(15,⟨[1,2,4,5,7,8,10,11,12,13,29,30,31,40,41,42,58,59,63,64],[2,4,5,10,102],[],[],[],[],[]⟩)],[],[(2,⟨[1,2,4,5],[2,4,5,102],[],[],[],[],[]⟩),(22,⟨[4,5],[4,5,102],[],[],[],[],[]⟩)],[]⟩
noncomputable def pol_Z149:Pol := ⟨27,[],[(2,⟨[0,1,5],[],[],[],[],[],[]⟩)],[],[],[]⟩
noncomputable def pol_Z31:Pol := ⟨21,[(14,[some 20])],[(3,⟨[3,6,7,8],[16],[(3,16,yL,true)],[],[],[],[]⟩)],[],[],[]⟩
noncomputable def pol_Z28:Pol := ⟨17,[],[],[],[],[]⟩
noncomputable def pol_Z114:Pol := ⟨28,[],[(4,⟨[0,1,12,13],[],[],[],[],[],[]⟩)],[],[],[]⟩
noncomputable def pol_Z164:Pol := ⟨32,[],[(4,⟨[1,7,8,9],[],[],[],[],[],[]⟩)],[],[],[]⟩
noncomputable def pol_Z168:Pol := ⟨43,[],[(3,⟨[0,1,5,6],[],[],[],[],[],[]⟩)],[],[],[]⟩
noncomputable def pol_Z158:Pol := ⟨21,[],[],[],[],[]⟩
noncomputable def pol_Z68:Pol := ⟨31,[],[(3,⟨[2,5,11,12,13],[2],[],[],[],[],[]⟩)],[],[],[]⟩
noncomputable def pol_Z33:Pol := ⟨32,[],[(3,⟨[0,1,2,7,10,11],[],[],[],[],[],[]⟩)],[],[],[]⟩
noncomputable def pol_Z8:Pol := ⟨22,[],[],[],[],[]⟩
noncomputable def pol_Z29:Pol := ⟨18,[],[],[],[],[]⟩
noncomputable def pol_Z152:Pol := ⟨11,[],[],[],[],[]⟩
noncomputable def pol_Z145:Pol := ⟨42,[],[(4,⟨[0,1,5],[],[],[],[],[],[]⟩)],[],[],[]⟩
noncomputable def pol_Z147:Pol := ⟨19,[(9,[some 18])],[],[],[],[]⟩
noncomputable def pol_Z155:Pol := ⟨16,[],[],[],[],[]⟩
noncomputable def pol_Z140:Pol := ⟨248,[(37,[some 247])],[(8,⟨[0,2,5,6,7,8,9,10,11],[2,5,47,247],[],[],[],[],[]⟩),(11,⟨[0,2,5,6,7,8,9,10,11,12],[2,5,47,247],[],[],[],[],[]⟩),(17,⟨[0,2,5,6,7,8,9,10,11,12,13],[2,5,47,247],[],[],[],[],[]⟩),(26,⟨[0,2,5,6,7,8,9,10,11,16,17],[2,5,47,247],[],[],[],[],[]⟩),(30,⟨[0,2,5,6,7,8,9,10,11,18],[2,5,47,247],[],[],[],[],[]⟩),(35,⟨[0,2,5,6,7,8,9,10,11,18,19,20],[2,5,47,247],[],[],[],[],[]⟩)],[],[(2,⟨[0,2,5],[2,5,247],[],[],[],[],[]⟩),(22,⟨[0,2,5,6,7,8,9,10,11],[2,5,47,247],[],[],[],[],[]⟩),(1000058,⟨[0,2,5,6,7,8,9,10,11,58],[2,5,47,247],[],[],[],[],[]⟩),(1000079,⟨[0,2,5,6,7,8,9,10,11,12,79],[2,5,47,247],[],[],[],[],[]⟩),(1000200,⟨[0,2,5,6,7,8,9,10,11,18,19,200],[2,5,47,247],[],[],[],[],[]⟩)],[]⟩
noncomputable def pol_Z128:Pol := ⟨20,[],[(2,⟨[0,1,5],[],[],[],[],[],[]⟩)],[],[],[]⟩
noncomputable def pol_Z138:Pol := ⟨14,[],[],[],[],[]⟩
noncomputable def pol_Z15:Pol := ⟨21,[],[],[],[],[]⟩
noncomputable def pol_Z106:Pol := ⟨11,[],[],[],[],[]⟩
noncomputable def pol_Z37:Pol := ⟨29,[(22,[some 28])],[(3,⟨[0,3,6,7],[24],[(3,24,yL,true)],[],[],[],[]⟩)],[],[],[]⟩
noncomputable def pol_Z11:Pol := ⟨16,[],[],[],[],[]⟩
noncomputable def pol_Z71:Pol := ⟨18,[],[],[],[],[]⟩
noncomputable def pol_Z63:Pol := ⟨24,[(14,[some 23])],[(3,⟨[1,3,6,7],[1,16],[(3,16,yL,true)],[],[],[],[]⟩)],[],[],[]⟩
noncomputable def pol_Z34:Pol := ⟨125,[(77,[some 123]),(110,[some 124])],[(4,⟨[0,1,2,8,9,16,17],[116,120],[(8,116,yI,true)],[],[],[],[]⟩),(17,⟨[0,1,2,8,9,10,11,16,17,79,80,81],[10,116,120],[],[],[],[],[]⟩)],[],[(13,⟨[0,1,2,8,9,10,11,16,17],[10,116,120],[],[],[],[],[]⟩),(16,⟨[0,1,2,8,9,10,11,16,17],[10,116,120],[],[],[],[],[]⟩),(1000095,⟨[0,1,2,8,9,10,11,14,15,16,17,79,80,81,95],[10,116,120],[],[],[],[],[]⟩)],[]⟩
noncomputable def pol_Z113:Pol := ⟨11,[],[],[],[],[]⟩
noncomputable def pol_Z62:Pol := ⟨14,[],[],[],[],[]⟩
noncomputable def pol_Z36:Pol := ⟨29,[],[(3,⟨[2,5,13,14,15],[2,24],[(5,24,yI,true)],[],[],[],[]⟩)],[],[],[]⟩
noncomputable def pol_Z136:Pol := ⟨81,[],[(3,⟨[0,1,4,5,6],[4,5,24],[],[],[],[],[]⟩)],[],[(2,⟨[0,1,4,5],[4,5,24],[],[],[],[],[]⟩)],[]⟩
noncomputable def pol_Z108:Pol := ⟨11,[],[],[],[],[]⟩
noncomputable def pol_Z55:Pol := ⟨6,[],[],[],[],[]⟩
noncomputable def pol_Z38:Pol := ⟨40,[],[(3,⟨[2,3,8,9,16,17],[8,9,31],[],[(9,3,31,yI,true)],[],[],[]⟩),(6,⟨[2,3,8,9,10,16,17,20,21],[8,9,31],[],[(9,3,31,yI,true)],[],[],[]⟩)],[],[],[]⟩
noncomputable def pol_Z70:Pol := ⟨13,[],[],[],[],[]⟩
noncomputable def pol_Z7:Pol := ⟨23,[],[],[],[],[]⟩
noncomputable def pol_Z105:Pol := ⟨38,[(24,[some 37])],[(3,⟨[0,3,9,10,11],[],[],[],[],[],[]⟩),(11,⟨[6,25,26,27],[37],[],[],[],[],[]⟩)],[],[],[]⟩
noncomputable def pol_Z74:Pol := ⟨7,[],[],[],[],[]⟩
noncomputable def pol_Z101:Pol := ⟨52,[],[(3,⟨[0,1,2,8,9,10],[],[],[],[],[],[]⟩)],[],[],[]⟩
noncomputable def pol_Z163:Pol := ⟨25,[],[(4,⟨[0,1,5],[],[],[],[],[],[]⟩)],[],[],[]⟩
noncomputable def pol_Z157:Pol := ⟨11,[],[],[],[],[]⟩
noncomputable def pol_Z160:Pol := ⟨63,[],[],[],[],[]⟩
noncomputable def pol_Z162:Pol := ⟨39,[],[(3,⟨[0,1,2,7,8],[],[],[],[],[],[]⟩)],[],[],[]⟩
noncomputable def pol_Z165:Pol := ⟨37,[(31,[none,none,none,some 36])],[],[],[(4,⟨[0,1,2,3,8,9],[8],[],[],[],[],[]⟩)],[]⟩
noncomputable def pol_Z141:Pol := ⟨76,[],[(4,⟨[0,1,5],[],[],[],[],[],[]⟩)],[],[(1000049,⟨[0,1,49],[],[],[],[],[],[]⟩)],[]⟩
noncomputable def pol_Z21:Pol := ⟨28,[],[(4,⟨[1,2,16],[2],[],[],[],[],[]⟩)],[],[(1000015,⟨[1,2,15],[2],[],[],[],[],[]⟩)],[]⟩
noncomputable def pol_Z23:Pol := ⟨33,[],[(3,⟨[1,3,9,10],[1,28],[(3,28,(.st (.cons yI (.cons yI (.cons yI .nil)))),true)],[],[],[],[]⟩),(6,⟨[1,3,4,9,10,15,16,17],[1,28],[(3,28,(.st (.cons yI (.cons yI (.cons yI .nil)))),true)],[],[],[],[]⟩)],[],[],[]⟩
noncomputable def pol_Z48:Pol := ⟨36,[],[],[],[],[]⟩
noncomputable def pol_Z60:Pol := ⟨25,[(15,[none,none,none,some 24])],[],[],[],[]⟩
noncomputable def pol_Z32:Pol := ⟨22,[],[],[],[],[]⟩
noncomputable def pol_Z9:Pol := ⟨39,[],[],[],[],[]⟩
noncomputable def pol_Z42:Pol := ⟨41,[],[(3,⟨[1,2,5,18,19,20],[2],[],[],[],[],[]⟩)],[],[],[]⟩
noncomputable def pol_Z132:Pol := ⟨28,[],[(4,⟨[0,1,5],[],[],[],[],[],[]⟩)],[],[],[]⟩
noncomputable def pol_Z103:Pol := ⟨9,[],[],[],[(1000004,⟨[0,4],[],[],[],[],[],[]⟩)],[]⟩
noncomputable def pol_Z2:Pol := ⟨19,[],[(3,⟨[3,6,7,8],[],[],[],[],[],[]⟩)],[],[],[]⟩
noncomputable def pol_Z0:Pol := ⟨22,[],[],[],[],[]⟩
noncomputable def pol_Z104:Pol := ⟨38,[],[(2,⟨[0,1,9,10,11],[],[],[],[],[],[]⟩)],[],[],[]⟩
noncomputable def pol_Z19:Pol := ⟨11,[],[],[],[],[]⟩
noncomputable def pol_Z30:Pol := ⟨53,[],[(4,⟨[1,2,6,7,12,13,14],[2,25],[(6,25,yI,true)],[],[],[],[]⟩)],[],[],[]⟩
noncomputable def pol_Z131:Pol := ⟨41,[],[(2,⟨[0,1,2,7],[],[],[],[],[],[]⟩)],[],[(1000037,⟨[0,1,2,7,37],[],[],[],[],[],[]⟩)],[]⟩
noncomputable def pol_Z135:Pol := ⟨21,[],[(3,⟨[0,1,5,6],[],[],[],[],[],[]⟩)],[],[],[]⟩
noncomputable def pol_Z51:Pol := ⟨21,[],[(2,⟨[0,3],[],[],[],[],[],[]⟩)],[],[],[]⟩
noncomputable def pol_Z16:Pol := ⟨7,[],[],[],[],[]⟩
noncomputable def pol_Z53:Pol := ⟨6,[],[],[],[],[]⟩
noncomputable def pol_Z116:Pol := ⟨21,[],[(2,⟨[0,1,7,8],[],[],[],[],[],[]⟩)],[],[],[]⟩
noncomputable def pol_Z35:Pol := ⟨11,[],[],[],[],[]⟩
noncomputable def pol_Z17:Pol := ⟨38,[],[(3,⟨[0,1,2,3,9,12,13],[31],[(9,31,yI,true)],[],[],[],[]⟩)],[],[],[]⟩
noncomputable def pol_Z47:Pol := ⟨12,[],[],[],[],[]⟩
noncomputable def pol_Z119:Pol := ⟨21,[],[(2,⟨[0,1,7,8],[],[],[],[],[],[]⟩)],[],[],[]⟩
noncomputable def pol_Z139:Pol := ⟨43,[],[],[],[],[]⟩
noncomputable def pol_Z143:Pol := ⟨99,[(22,[none,none,none,some 98])],[(3,⟨[0,1,4,5,6],[4,5,98],[],[],[],[],[]⟩),(6,⟨[0,1,4,5,6,7],[4,5,98],[],[],[],[],[]⟩),(10,⟨[0,1,4,5,6,7,8,9],[4,5,98],[],[],[],[],[]⟩)],[],[(2,⟨[0,1,4,5],[4,5,98],[],[],[],[],[]⟩)],[]⟩
noncomputable def pol_Z22:Pol := ⟨7,[],[],[],[],[]⟩
noncomputable def pol_Z12:Pol := ⟨38,[],[],[],[],[]⟩
noncomputable def pol_Z61:Pol := ⟨21,[],[],[],[],[]⟩
noncomputable def pol_Z43:Pol := ⟨32,[],[(3,⟨[5,12,13,14],[],[],[],[],[],[]⟩)],[],[],[]⟩
noncomputable def pol_Z3:Pol := ⟨7,[],[],[],[],[]⟩
noncomputable def pol_Z1:Pol := ⟨22,[],[],[],[],[]⟩
noncomputable def pol_Z20:Pol := ⟨10,[],[],[],[],[]⟩
noncomputable def pol_Z50:Pol := ⟨11,[],[],[],[],[]⟩
noncomputable def pol_Z57:Pol := ⟨23,[],[(3,⟨[3,7,8,9],[17],[(3,17,yI,true)],[],[],[],[]⟩)],[],[],[]⟩
noncomputable def pol_Z59:Pol := ⟨29,[],[(2,⟨[0,1,2,7],[],[],[],[],[],[]⟩)],[],[],[]⟩
noncomputable def pol_Z52:Pol := ⟨6,[],[],[],[],[]⟩
noncomputable def pol_Z4:Pol := ⟨7,[],[],[],[],[]⟩
noncomputable def pol_Z58:Pol := ⟨6,[],[],[],[],[]⟩
noncomputable def sigL:List (Option Sig) := [none,none,none,none,none,none,none,some sg_Z75,none,none,none,some sg_Z89,none,some sg_Z95,none,some sg_Z78,some sg_Z76,some sg_Z84,some sg_Z86,some sg_Z83,none,some sg_Z96,none,some sg_Z77,some sg_Z85,some sg_Z82,none,none,some sg_Z79,none,none,some sg_Z94,none,some sg_Z100,none,some sg_Z81,some sg_Z88,some sg_Z126,some sg_Z5,none,none,none,none,none,none,none,some sg_Z91,none,none,some sg_Z97,none,none,none,none,none,none,none,none,none,none,some sg_Z133,none,some sg_Z146,some sg_Z150,none,none,none,some sg_Z90,some sg_Z93,some sg_Z159,none,some sg_Z99,some sg_Z6,some sg_Z65,some sg_Z26,some sg_Z80,some sg_Z87,some sg_Z167,some sg_Z169,some sg_Z44,some sg_Z130,none,none,none,none,none,none,none,some sg_Z170,none,none,some sg_Z24,none,none,none,none,some sg_Z45,some sg_Z151,some sg_Z127,some sg_Z153,some sg_Z137,some sg_Z10,some sg_Z13,some sg_Z49,some sg_Z64,some sg_Z56,none,some sg_Z134,none,some sg_Z156,some sg_Z142,some sg_Z144,some sg_Z148,some sg_Z154,none,some sg_Z54,none,none,some sg_Z69,none,some sg_Z67,some sg_Z27,some sg_Z129,none,none,none,some sg_Z73,some sg_Z66,some sg_Z125,some sg_Z46,some sg_Z18,none,some sg_Z92,some sg_Z161,some sg_Z166,none,some sg_Z98,some sg_Z14,some sg_Z72,some sg_Z25,none,some sg_Z149,none,none,none,none,none,some sg_Z31,none,some sg_Z28,none,some sg_Z114,some sg_Z164,some sg_Z168,some sg_Z158,none,some sg_Z68,none,some sg_Z33,some sg_Z8,some sg_Z29,some sg_Z152,some sg_Z145,some sg_Z147,some sg_Z155,some sg_Z140,some sg_Z128,some sg_Z138,some sg_Z15,some sg_Z106,some sg_Z37,some sg_Z11,some sg_Z71,some sg_Z63,some sg_Z34,some sg_Z113,some sg_Z62,some sg_Z36,some sg_Z136,some sg_Z108,some sg_Z55,none,some sg_Z38,some sg_Z70,some sg_Z7,some sg_Z105,none,some sg_Z74,some sg_Z101,some sg_Z163,some sg_Z157,some sg_Z160,some sg_Z162,some sg_Z165,some sg_Z141,some sg_Z21,some sg_Z23,some sg_Z48,some sg_Z60,some sg_Z32,some sg_Z9,some sg_Z42,none,some sg_Z132,none,none,none,some sg_Z103,none,some sg_Z2,some sg_Z0,some sg_Z104,some sg_Z19,none,some sg_Z30,some sg_Z131,some sg_Z135,some sg_Z51,some sg_Z16,some sg_Z53,some sg_Z116,some sg_Z35,some sg_Z17,some sg_Z47,some sg_Z119,some sg_Z115,some sg_Z139,some sg_Z143,some sg_Z22,some sg_Z12,some sg_Z61,some sg_Z43,none,none,none,none,none,none,none,none,none,none,none,none,none,none,none,none,none,none,none,some sg_Z3,some sg_Z1,some sg_Z20,some sg_Z50,some sg_Z57,some sg_Z59,some sg_Z52,none,none,none,none,none,some sg_Z4,none,none,none,some sg_Z58,none,none,none,none,none,none,none,none,none,none,none,none,none,none,none,none,none,none]
noncomputable def fnL:List (Option (Func × Pol)) := [none,none,none,none,none,none,none,some (F_Z75,pol_Z75),none,none,none,some (F_Z89,pol_Z89),none,some (F_Z95,pol_Z95),none,some (F_Z78,pol_Z78),some (F_Z76,pol_Z76),some (F_Z84,pol_Z84),none,some (F_Z83,pol_Z83),none,some (F_Z96,pol_Z96),none,some (F_Z77,pol_Z77),some (F_Z85,pol_Z85),some (F_Z82,pol_Z82),none,none,some (F_Z79,pol_Z79),none,none,some (F_Z94,pol_Z94),none,some (F_Z100,pol_Z100),none,some (F_Z81,pol_Z81),some (F_Z88,pol_Z88),some (F_Z126,pol_Z126),some (F_Z5,pol_Z5),none,none,none,none,none,none,none,some (F_Z91,pol_Z91),none,none,some (F_Z97,pol_Z97),none,none,none,none,none,none,none,none,none,none,some (F_Z133,pol_Z133),none,some (F_Z146,pol_Z146),some (F_Z150,pol_Z150),none,none,none,some (F_Z90,pol_Z90),some (F_Z93,pol_Z93),some (F_Z159,pol_Z159),none,some (F_Z99,pol_Z99),some (F_Z6,pol_Z6),some (F_Z65,pol_Z65),some (F_Z26,pol_Z26),some (F_Z80,pol_Z80),none,some (F_Z167,pol_Z167),some (F_Z169,pol_Z169),some (F_Z44,pol_Z44),some (F_Z130,pol_Z130),none,none,none,none,none,none,none,some (F_Z170,pol_Z170),none,none,some (F_Z24,pol_Z24),none,none,none,none,none,some (F_Z151,pol_Z151),some (F_Z127,pol_Z127),some (F_Z153,pol_Z153),some (F_Z137,pol_Z137),some (F_Z10,pol_Z10),some (F_Z13,pol_Z13),some (F_Z49,pol_Z49),some (F_Z64,pol_Z64),some (F_Z56,pol_Z56),none,some (F_Z134,pol_Z134),none,some (F_Z156,pol_Z156),some (F_Z142,pol_Z142),some (F_Z144,pol_Z144),some (F_Z148,pol_Z148),some (F_Z154,pol_Z154),none,some (F_Z54,pol_Z54),none,none,some (F_Z69,pol_Z69),none,some (F_Z67,pol_Z67),some (F_Z27,pol_Z27),some (F_Z129,pol_Z129),none,none,none,some (F_Z73,pol_Z73),some (F_Z66,pol_Z66),some (F_Z125,pol_Z125),some (F_Z46,pol_Z46),some (F_Z18,pol_Z18),none,some (F_Z92,pol_Z92),some (F_Z161,pol_Z161),some (F_Z166,pol_Z166),none,some (F_Z98,pol_Z98),some (F_Z14,pol_Z14),some (F_Z72,pol_Z72),some (F_Z25,pol_Z25),none,some (F_Z149,pol_Z149),none,none,none,none,none,some (F_Z31,pol_Z31),none,some (F_Z28,pol_Z28),none,some (F_Z114,pol_Z114),some (F_Z164,pol_Z164),some (F_Z168,pol_Z168),some (F_Z158,pol_Z158),none,some (F_Z68,pol_Z68),none,some (F_Z33,pol_Z33),some (F_Z8,pol_Z8),some (F_Z29,pol_Z29),some (F_Z152,pol_Z152),some (F_Z145,pol_Z145),some (F_Z147,pol_Z147),some (F_Z155,pol_Z155),some (F_Z140,pol_Z140),some (F_Z128,pol_Z128),some (F_Z138,pol_Z138),some (F_Z15,pol_Z15),some (F_Z106,pol_Z106),some (F_Z37,pol_Z37),some (F_Z11,pol_Z11),some (F_Z71,pol_Z71),some (F_Z63,pol_Z63),some (F_Z34,pol_Z34),some (F_Z113,pol_Z113),some (F_Z62,pol_Z62),some (F_Z36,pol_Z36),some (F_Z136,pol_Z136),some (F_Z108,pol_Z108),some (F_Z55,pol_Z55),none,some (F_Z38,pol_Z38),some (F_Z70,pol_Z70),some (F_Z7,pol_Z7),some (F_Z105,pol_Z105),none,some (F_Z74,pol_Z74),some (F_Z101,pol_Z101),some (F_Z163,pol_Z163),some (F_Z157,pol_Z157),some (F_Z160,pol_Z160),some (F_Z162,pol_Z162),some (F_Z165,pol_Z165),some (F_Z141,pol_Z141),some (F_Z21,pol_Z21),some (F_Z23,pol_Z23),some (F_Z48,pol_Z48),some (F_Z60,pol_Z60),some (F_Z32,pol_Z32),some (F_Z9,pol_Z9),some (F_Z42,pol_Z42),none,some (F_Z132,pol_Z132),none,none,none,some (F_Z103,pol_Z103),none,some (F_Z2,pol_Z2),some (F_Z0,pol_Z0),some (F_Z104,pol_Z104),some (F_Z19,pol_Z19),none,some (F_Z30,pol_Z30),some (F_Z131,pol_Z131),some (F_Z135,pol_Z135),some (F_Z51,pol_Z51),some (F_Z16,pol_Z16),some (F_Z53,pol_Z53),some (F_Z116,pol_Z116),some (F_Z35,pol_Z35),some (F_Z17,pol_Z17),some (F_Z47,pol_Z47),some (F_Z119,pol_Z119),none,some (F_Z139,pol_Z139),some (F_Z143,pol_Z143),some (F_Z22,pol_Z22),some (F_Z12,pol_Z12),some (F_Z61,pol_Z61),some (F_Z43,pol_Z43),none,none,none,none,none,none,none,none,none,none,none,none,none,none,none,none,none,none,none,some (F_Z3,pol_Z3),some (F_Z1,pol_Z1),some (F_Z20,pol_Z20),some (F_Z50,pol_Z50),some (F_Z57,pol_Z57),some (F_Z59,pol_Z59),some (F_Z52,pol_Z52),none,none,none,none,none,some (F_Z4,pol_Z4),none,none,none,some (F_Z58,pol_Z58),none,none,none,none,none,none,none,none,none,none,none,none,none,none,none,none,none,none]
noncomputable def primL:List (Option (Run → List Dv → Option Dv)) := [none,none,none,none,none,none,none,none,none,none,none,none,none,none,none,none,none,none,some (pMarkSS n_Z85),none,none,none,none,none,none,none,none,none,none,none,none,none,none,none,none,none,none,none,none,none,none,none,none,none,none,none,none,none,none,none,none,none,none,none,none,none,none,none,none,none,none,none,none,none,none,none,none,none,none,none,none,none,none,none,none,none,some (pMarkMS n_Z85),none,none,none,none,none,none,none,none,none,none,none,none,none,none,none,none,none,none,none,some (pIndep n_Z29 n_Z31 n_Z67),none,none,none,none,none,none,none,none,none,none,none,none,none,none,none,none,none,none,none,none,none,none,none,none,none,none,none,none,none,none,none,none,none,none,none,none,none,none,none,none,none,none,none,none,none,none,none,none,none,none,none,none,none,none,none,none,none,none,none,none,none,none,none,none,none,none,none,none,none,none,none,none,none,none,none,none,none,none,none,none,none,none,none,none,none,none,none,none,none,none,none,none,none,none,none,none,none,none,none,none,none,none,none,none,none,none,none,none,none,none,none,none,none,none,none,none,none,none,none,none,none,none,none,none,none,none,none,none,some (pGrow yI),none,none,none,none,none,none,none,none,none,none,none,none,none,none,none,none,none,none,none,none,none,none,none,none,none,none,none,none,none,none,none,none,none,none,none,none,none,none,none,none,none,none,none,none,none,none,none,none,none,none,none,none,none,none,none,none,none,none,none,none]
noncomputable def E:Env := { P := Tryz.prog,fn := fun f => fnL.getD f none,prim := fun f => primL.getD f none,sig := fun f => sigL.getD f none }
theorem sig_laws_FnExactCohomologyBasis_eq:E.sig n_Z75 = some sg_Z75 := rfl
theorem run_Z75 (n:Nat) (args:List Dv):run E (n + 1) n_Z75 args = evFn E (mkR (run E n)) sg_Z75 pol_Z75 F_Z75 n args := rfl
theorem sig_laws_szComplex_eq:E.sig n_Z89 = some sg_Z89 := rfl
theorem run_Z89 (n:Nat) (args:List Dv):run E (n + 1) n_Z89 args = evFn E (mkR (run E n)) sg_Z89 pol_Z89 F_Z89 n args := rfl
theorem sig_laws_toComplex_eq:E.sig n_Z95 = some sg_Z95 := rfl
theorem run_Z95 (n:Nat) (args:List Dv):run E (n + 1) n_Z95 args = evFn E (mkR (run E n)) sg_Z95 pol_Z95 F_Z95 n args := rfl
theorem sig_laws_eqInt64SS_eq:E.sig n_Z78 = some sg_Z78 := rfl
theorem run_Z78 (n:Nat) (args:List Dv):run E (n + 1) n_Z78 args = evFn E (mkR (run E n)) sg_Z78 pol_Z78 F_Z78 n args := rfl
theorem sig_laws_eqComplex_eq:E.sig n_Z76 = some sg_Z76 := rfl
theorem run_Z76 (n:Nat) (args:List Dv):run E (n + 1) n_Z76 args = evFn E (mkR (run E n)) sg_Z76 pol_Z76 F_Z76 n args := rfl
theorem sig_laws_markComplex_eq:E.sig n_Z84 = some sg_Z84 := rfl
theorem run_Z84 (n:Nat) (args:List Dv):run E (n + 1) n_Z84 args = evFn E (mkR (run E n)) sg_Z84 pol_Z84 F_Z84 n args := rfl
theorem sig_laws_markInt64SS_eq:E.sig n_Z86 = some sg_Z86 := rfl
theorem sig_laws_heldInt64SS_eq:E.sig n_Z83 = some sg_Z83 := rfl
theorem run_Z83 (n:Nat) (args:List Dv):run E (n + 1) n_Z83 args = evFn E (mkR (run E n)) sg_Z83 pol_Z83 F_Z83 n args := rfl
theorem sig_laws_toInt64S_eq:E.sig n_Z96 = some sg_Z96 := rfl
theorem run_Z96 (n:Nat) (args:List Dv):run E (n + 1) n_Z96 args = evFn E (mkR (run E n)) sg_Z96 pol_Z96 F_Z96 n args := rfl
theorem sig_laws_eqInt64S_eq:E.sig n_Z77 = some sg_Z77 := rfl
theorem run_Z77 (n:Nat) (args:List Dv):run E (n + 1) n_Z77 args = evFn E (mkR (run E n)) sg_Z77 pol_Z77 F_Z77 n args := rfl
theorem sig_laws_markInt64S_eq:E.sig n_Z85 = some sg_Z85 := rfl
theorem run_Z85 (n:Nat) (args:List Dv):run E (n + 1) n_Z85 args = evFn E (mkR (run E n)) sg_Z85 pol_Z85 F_Z85 n args := rfl
theorem sig_laws_heldInt64S_eq:E.sig n_Z82 = some sg_Z82 := rfl
theorem run_Z82 (n:Nat) (args:List Dv):run E (n + 1) n_Z82 args = evFn E (mkR (run E n)) sg_Z82 pol_Z82 F_Z82 n args := rfl
theorem sig_laws_eqMatrix_eq:E.sig n_Z79 = some sg_Z79 := rfl
theorem run_Z79 (n:Nat) (args:List Dv):run E (n + 1) n_Z79 args = evFn E (mkR (run E n)) sg_Z79 pol_Z79 F_Z79 n args := rfl
theorem sig_laws_szSheaf_eq:E.sig n_Z94 = some sg_Z94 := rfl
theorem run_Z94 (n:Nat) (args:List Dv):run E (n + 1) n_Z94 args = evFn E (mkR (run E n)) sg_Z94 pol_Z94 F_Z94 n args := rfl
theorem sig_laws_toSheaf_eq:E.sig n_Z100 = some sg_Z100 := rfl
theorem run_Z100 (n:Nat) (args:List Dv):run E (n + 1) n_Z100 args = evFn E (mkR (run E n)) sg_Z100 pol_Z100 F_Z100 n args := rfl
theorem sig_laws_eqSheaf_eq:E.sig n_Z81 = some sg_Z81 := rfl
theorem run_Z81 (n:Nat) (args:List Dv):run E (n + 1) n_Z81 args = evFn E (mkR (run E n)) sg_Z81 pol_Z81 F_Z81 n args := rfl
theorem sig_laws_markSheaf_eq:E.sig n_Z88 = some sg_Z88 := rfl
theorem run_Z88 (n:Nat) (args:List Dv):run E (n + 1) n_Z88 args = evFn E (mkR (run E n)) sg_Z88 pol_Z88 F_Z88 n args := rfl
theorem sig_spec_CohomologyBasis_eq:E.sig n_Z126 = some sg_Z126 := rfl
theorem run_Z126 (n:Nat) (args:List Dv):run E (n + 1) n_Z126 args = evFn E (mkR (run E n)) sg_Z126 pol_Z126 F_Z126 n args := rfl
theorem sig_impl_CohomologyBasis_eq:E.sig n_Z5 = some sg_Z5 := rfl
theorem run_Z5 (n:Nat) (args:List Dv):run E (n + 1) n_Z5 args = evFn E (mkR (run E n)) sg_Z5 pol_Z5 F_Z5 n args := rfl
theorem sig_laws_szInt64SS_eq:E.sig n_Z91 = some sg_Z91 := rfl
theorem run_Z91 (n:Nat) (args:List Dv):run E (n + 1) n_Z91 args = evFn E (mkR (run E n)) sg_Z91 pol_Z91 F_Z91 n args := rfl
theorem sig_laws_toInt64SS_eq:E.sig n_Z97 = some sg_Z97 := rfl
theorem run_Z97 (n:Nat) (args:List Dv):run E (n + 1) n_Z97 args = evFn E (mkR (run E n)) sg_Z97 pol_Z97 F_Z97 n args := rfl
theorem sig_spec_l02Prime_eq:E.sig n_Z133 = some sg_Z133 := rfl
theorem run_Z133 (n:Nat) (args:List Dv):run E (n + 1) n_Z133 args = evFn E (mkR (run E n)) sg_Z133 pol_Z133 F_Z133 n args := rfl
theorem sig_spec_l05Dimension_eq:E.sig n_Z146 = some sg_Z146 := rfl
theorem run_Z146 (n:Nat) (args:List Dv):run E (n + 1) n_Z146 args = evFn E (mkR (run E n)) sg_Z146 pol_Z146 F_Z146 n args := rfl
theorem sig_spec_l05Of_eq:E.sig n_Z150 = some sg_Z150 := rfl
theorem run_Z150 (n:Nat) (args:List Dv):run E (n + 1) n_Z150 args = evFn E (mkR (run E n)) sg_Z150 pol_Z150 F_Z150 n args := rfl
theorem sig_laws_szInt64S_eq:E.sig n_Z90 = some sg_Z90 := rfl
theorem run_Z90 (n:Nat) (args:List Dv):run E (n + 1) n_Z90 args = evFn E (mkR (run E n)) sg_Z90 pol_Z90 F_Z90 n args := rfl
theorem sig_laws_szMatrixS_eq:E.sig n_Z93 = some sg_Z93 := rfl
theorem run_Z93 (n:Nat) (args:List Dv):run E (n + 1) n_Z93 args = evFn E (mkR (run E n)) sg_Z93 pol_Z93 F_Z93 n args := rfl
theorem sig_spec_l09Is_eq:E.sig n_Z159 = some sg_Z159 := rfl
theorem run_Z159 (n:Nat) (args:List Dv):run E (n + 1) n_Z159 args = evFn E (mkR (run E n)) sg_Z159 pol_Z159 F_Z159 n args := rfl
theorem sig_laws_toMatrixS_eq:E.sig n_Z99 = some sg_Z99 := rfl
theorem run_Z99 (n:Nat) (args:List Dv):run E (n + 1) n_Z99 args = evFn E (mkR (run E n)) sg_Z99 pol_Z99 F_Z99 n args := rfl
theorem sig_impl_IsSheaf_eq:E.sig n_Z6 = some sg_Z6 := rfl
theorem run_Z6 (n:Nat) (args:List Dv):run E (n + 1) n_Z6 args = evFn E (mkR (run E n)) sg_Z6 pol_Z6 F_Z6 n args := rfl
theorem sig_impl_size_Sint64_eq:E.sig n_Z65 = some sg_Z65 := rfl
theorem run_Z65 (n:Nat) (args:List Dv):run E (n + 1) n_Z65 args = evFn E (mkR (run E n)) sg_Z65 pol_Z65 F_Z65 n args := rfl
theorem sig_impl_cohomologyBasis_eq:E.sig n_Z26 = some sg_Z26 := rfl
theorem run_Z26 (n:Nat) (args:List Dv):run E (n + 1) n_Z26 args = evFn E (mkR (run E n)) sg_Z26 pol_Z26 F_Z26 n args := rfl
theorem sig_laws_eqMatrixS_eq:E.sig n_Z80 = some sg_Z80 := rfl
theorem run_Z80 (n:Nat) (args:List Dv):run E (n + 1) n_Z80 args = evFn E (mkR (run E n)) sg_Z80 pol_Z80 F_Z80 n args := rfl
theorem sig_laws_markMatrixS_eq:E.sig n_Z87 = some sg_Z87 := rfl
theorem sig_spec_l11Ask_eq:E.sig n_Z167 = some sg_Z167 := rfl
theorem run_Z167 (n:Nat) (args:List Dv):run E (n + 1) n_Z167 args = evFn E (mkR (run E n)) sg_Z167 pol_Z167 F_Z167 n args := rfl
theorem sig_spec_l11Basis_eq:E.sig n_Z169 = some sg_Z169 := rfl
theorem run_Z169 (n:Nat) (args:List Dv):run E (n + 1) n_Z169 args = evFn E (mkR (run E n)) sg_Z169 pol_Z169 F_Z169 n args := rfl
theorem sig_impl_graded_eq:E.sig n_Z44 = some sg_Z44 := rfl
theorem run_Z44 (n:Nat) (args:List Dv):run E (n + 1) n_Z44 args = evFn E (mkR (run E n)) sg_Z44 pol_Z44 F_Z44 n args := rfl
theorem sig_spec_l00Own_eq:E.sig n_Z130 = some sg_Z130 := rfl
theorem run_Z130 (n:Nat) (args:List Dv):run E (n + 1) n_Z130 args = evFn E (mkR (run E n)) sg_Z130 pol_Z130 F_Z130 n args := rfl
theorem sig_spec_l11Matrix_eq:E.sig n_Z170 = some sg_Z170 := rfl
theorem run_Z170 (n:Nat) (args:List Dv):run E (n + 1) n_Z170 args = evFn E (mkR (run E n)) sg_Z170 pol_Z170 F_Z170 n args := rfl
theorem sig_impl_coboundaries_eq:E.sig n_Z24 = some sg_Z24 := rfl
theorem run_Z24 (n:Nat) (args:List Dv):run E (n + 1) n_Z24 args = evFn E (mkR (run E n)) sg_Z24 pol_Z24 F_Z24 n args := rfl
theorem sig_impl_independent_eq:E.sig n_Z45 = some sg_Z45 := rfl
theorem sig_spec_l05Ok_eq:E.sig n_Z151 = some sg_Z151 := rfl
theorem run_Z151 (n:Nat) (args:List Dv):run E (n + 1) n_Z151 args = evFn E (mkR (run E n)) sg_Z151 pol_Z151 F_Z151 n args := rfl
theorem sig_spec_ValidPrime_eq:E.sig n_Z127 = some sg_Z127 := rfl
theorem run_Z127 (n:Nat) (args:List Dv):run E (n + 1) n_Z127 args = evFn E (mkR (run E n)) sg_Z127 pol_Z127 F_Z127 n args := rfl
theorem sig_spec_l07Classes_eq:E.sig n_Z153 = some sg_Z153 := rfl
theorem run_Z153 (n:Nat) (args:List Dv):run E (n + 1) n_Z153 args = evFn E (mkR (run E n)) sg_Z153 pol_Z153 F_Z153 n args := rfl
theorem sig_spec_l03Kernel_eq:E.sig n_Z137 = some sg_Z137 := rfl
theorem run_Z137 (n:Nat) (args:List Dv):run E (n + 1) n_Z137 args = evFn E (mkR (run E n)) sg_Z137 pol_Z137 F_Z137 n args := rfl
theorem sig_impl_ValidComplex_eq:E.sig n_Z10 = some sg_Z10 := rfl
theorem run_Z10 (n:Nat) (args:List Dv):run E (n + 1) n_Z10 args = evFn E (mkR (run E n)) sg_Z10 pol_Z10 F_Z10 n args := rfl
theorem sig_impl_ValidPrime_eq:E.sig n_Z13 = some sg_Z13 := rfl
theorem run_Z13 (n:Nat) (args:List Dv):run E (n + 1) n_Z13 args = evFn E (mkR (run E n)) sg_Z13 pol_Z13 F_Z13 n args := rfl
theorem sig_impl_isDimension_eq:E.sig n_Z49 = some sg_Z49 := rfl
theorem run_Z49 (n:Nat) (args:List Dv):run E (n + 1) n_Z49 args = evFn E (mkR (run E n)) sg_Z49 pol_Z49 F_Z49 n args := rfl
theorem sig_impl_simplicesOf_eq:E.sig n_Z64 = some sg_Z64 := rfl
theorem run_Z64 (n:Nat) (args:List Dv):run E (n + 1) n_Z64 args = evFn E (mkR (run E n)) sg_Z64 pol_Z64 F_Z64 n args := rfl
theorem sig_impl_kernel_eq:E.sig n_Z56 = some sg_Z56 := rfl
theorem run_Z56 (n:Nat) (args:List Dv):run E (n + 1) n_Z56 args = evFn E (mkR (run E n)) sg_Z56 pol_Z56 F_Z56 n args := rfl
theorem sig_spec_l03Column_eq:E.sig n_Z134 = some sg_Z134 := rfl
theorem run_Z134 (n:Nat) (args:List Dv):run E (n + 1) n_Z134 args = evFn E (mkR (run E n)) sg_Z134 pol_Z134 F_Z134 n args := rfl
theorem sig_spec_l07With_eq:E.sig n_Z156 = some sg_Z156 := rfl
theorem run_Z156 (n:Nat) (args:List Dv):run E (n + 1) n_Z156 args = evFn E (mkR (run E n)) sg_Z156 pol_Z156 F_Z156 n args := rfl
theorem sig_spec_l03Solve_eq:E.sig n_Z142 = some sg_Z142 := rfl
theorem run_Z142 (n:Nat) (args:List Dv):run E (n + 1) n_Z142 args = evFn E (mkR (run E n)) sg_Z142 pol_Z142 F_Z142 n args := rfl
theorem sig_spec_l03Zero_eq:E.sig n_Z144 = some sg_Z144 := rfl
theorem run_Z144 (n:Nat) (args:List Dv):run E (n + 1) n_Z144 args = evFn E (mkR (run E n)) sg_Z144 pol_Z144 F_Z144 n args := rfl
theorem sig_spec_l05Faces_eq:E.sig n_Z148 = some sg_Z148 := rfl
theorem run_Z148 (n:Nat) (args:List Dv):run E (n + 1) n_Z148 args = evFn E (mkR (run E n)) sg_Z148 pol_Z148 F_Z148 n args := rfl
theorem sig_spec_l07Sign_eq:E.sig n_Z154 = some sg_Z154 := rfl
theorem run_Z154 (n:Nat) (args:List Dv):run E (n + 1) n_Z154 args = evFn E (mkR (run E n)) sg_Z154 pol_Z154 F_Z154 n args := rfl
theorem sig_impl_isZero_eq:E.sig n_Z54 = some sg_Z54 := rfl
theorem run_Z54 (n:Nat) (args:List Dv):run E (n + 1) n_Z54 args = evFn E (mkR (run E n)) sg_Z54 pol_Z54 F_Z54 n args := rfl
theorem sig_impl_transpose_eq:E.sig n_Z69 = some sg_Z69 := rfl
theorem run_Z69 (n:Nat) (args:List Dv):run E (n + 1) n_Z69 args = evFn E (mkR (run E n)) sg_Z69 pol_Z69 F_Z69 n args := rfl
theorem sig_impl_spaceOf_eq:E.sig n_Z67 = some sg_Z67 := rfl
theorem run_Z67 (n:Nat) (args:List Dv):run E (n + 1) n_Z67 args = evFn E (mkR (run E n)) sg_Z67 pol_Z67 F_Z67 n args := rfl
theorem sig_impl_columnsOf_eq:E.sig n_Z27 = some sg_Z27 := rfl
theorem run_Z27 (n:Nat) (args:List Dv):run E (n + 1) n_Z27 args = evFn E (mkR (run E n)) sg_Z27 pol_Z27 F_Z27 n args := rfl
theorem sig_spec_l00In_eq:E.sig n_Z129 = some sg_Z129 := rfl
theorem run_Z129 (n:Nat) (args:List Dv):run E (n + 1) n_Z129 args = evFn E (mkR (run E n)) sg_Z129 pol_Z129 F_Z129 n args := rfl
theorem sig_impl_zero_eq:E.sig n_Z73 = some sg_Z73 := rfl
theorem run_Z73 (n:Nat) (args:List Dv):run E (n + 1) n_Z73 args = evFn E (mkR (run E n)) sg_Z73 pol_Z73 F_Z73 n args := rfl
theorem sig_impl_size_int64_eq:E.sig n_Z66 = some sg_Z66 := rfl
theorem run_Z66 (n:Nat) (args:List Dv):run E (n + 1) n_Z66 args = evFn E (mkR (run E n)) sg_Z66 pol_Z66 F_Z66 n args := rfl
theorem sig_slices_Index_Sint64_int64_eq:E.sig n_Z125 = some sg_Z125 := rfl
theorem run_Z125 (n:Nat) (args:List Dv):run E (n + 1) n_Z125 args = evFn E (mkR (run E n)) sg_Z125 pol_Z125 F_Z125 n args := rfl
theorem sig_impl_indexOf_eq:E.sig n_Z46 = some sg_Z46 := rfl
theorem run_Z46 (n:Nat) (args:List Dv):run E (n + 1) n_Z46 args = evFn E (mkR (run E n)) sg_Z46 pol_Z46 F_Z46 n args := rfl
theorem sig_impl_alternating_eq:E.sig n_Z18 = some sg_Z18 := rfl
theorem run_Z18 (n:Nat) (args:List Dv):run E (n + 1) n_Z18 args = evFn E (mkR (run E n)) sg_Z18 pol_Z18 F_Z18 n args := rfl
theorem sig_laws_szMatrix_eq:E.sig n_Z92 = some sg_Z92 := rfl
theorem run_Z92 (n:Nat) (args:List Dv):run E (n + 1) n_Z92 args = evFn E (mkR (run E n)) sg_Z92 pol_Z92 F_Z92 n args := rfl
theorem sig_spec_l09Ok_eq:E.sig n_Z161 = some sg_Z161 := rfl
theorem run_Z161 (n:Nat) (args:List Dv):run E (n + 1) n_Z161 args = evFn E (mkR (run E n)) sg_Z161 pol_Z161 F_Z161 n args := rfl
theorem sig_spec_l09Wrong_eq:E.sig n_Z166 = some sg_Z166 := rfl
theorem run_Z166 (n:Nat) (args:List Dv):run E (n + 1) n_Z166 args = evFn E (mkR (run E n)) sg_Z166 pol_Z166 F_Z166 n args := rfl
theorem sig_laws_toMatrix_eq:E.sig n_Z98 = some sg_Z98 := rfl
theorem run_Z98 (n:Nat) (args:List Dv):run E (n + 1) n_Z98 args = evFn E (mkR (run E n)) sg_Z98 pol_Z98 F_Z98 n args := rfl
theorem sig_impl_ValidSheaf_eq:E.sig n_Z14 = some sg_Z14 := rfl
theorem run_Z14 (n:Nat) (args:List Dv):run E (n + 1) n_Z14 args = evFn E (mkR (run E n)) sg_Z14 pol_Z14 F_Z14 n args := rfl
theorem sig_impl_wrongSquare_eq:E.sig n_Z72 = some sg_Z72 := rfl
theorem run_Z72 (n:Nat) (args:List Dv):run E (n + 1) n_Z72 args = evFn E (mkR (run E n)) sg_Z72 pol_Z72 F_Z72 n args := rfl
theorem sig_impl_coboundaryMatrix_eq:E.sig n_Z25 = some sg_Z25 := rfl
theorem run_Z25 (n:Nat) (args:List Dv):run E (n + 1) n_Z25 args = evFn E (mkR (run E n)) sg_Z25 pol_Z25 F_Z25 n args := rfl
theorem sig_spec_l05Find_eq:E.sig n_Z149 = some sg_Z149 := rfl
theorem run_Z149 (n:Nat) (args:List Dv):run E (n + 1) n_Z149 args = evFn E (mkR (run E n)) sg_Z149 pol_Z149 F_Z149 n args := rfl
theorem sig_impl_copyLists_eq:E.sig n_Z31 = some sg_Z31 := rfl
theorem run_Z31 (n:Nat) (args:List Dv):run E (n + 1) n_Z31 args = evFn E (mkR (run E n)) sg_Z31 pol_Z31 F_Z31 n args := rfl
theorem sig_impl_compareSimplices_eq:E.sig n_Z28 = some sg_Z28 := rfl
theorem run_Z28 (n:Nat) (args:List Dv):run E (n + 1) n_Z28 args = evFn E (mkR (run E n)) sg_Z28 pol_Z28 F_Z28 n args := rfl
theorem sig_slices_Equal_Sint64_int64_eq:E.sig n_Z114 = some sg_Z114 := rfl
theorem run_Z114 (n:Nat) (args:List Dv):run E (n + 1) n_Z114 args = evFn E (mkR (run E n)) sg_Z114 pol_Z114 F_Z114 n args := rfl
theorem sig_spec_l09Sum_eq:E.sig n_Z164 = some sg_Z164 := rfl
theorem run_Z164 (n:Nat) (args:List Dv):run E (n + 1) n_Z164 args = evFn E (mkR (run E n)) sg_Z164 pol_Z164 F_Z164 n args := rfl
theorem sig_spec_l11At_eq:E.sig n_Z168 = some sg_Z168 := rfl
theorem run_Z168 (n:Nat) (args:List Dv):run E (n + 1) n_Z168 args = evFn E (mkR (run E n)) sg_Z168 pol_Z168 F_Z168 n args := rfl
theorem sig_spec_l09Get_eq:E.sig n_Z158 = some sg_Z158 := rfl
theorem run_Z158 (n:Nat) (args:List Dv):run E (n + 1) n_Z158 args = evFn E (mkR (run E n)) sg_Z158 pol_Z158 F_Z158 n args := rfl
theorem sig_impl_stalkSum_eq:E.sig n_Z68 = some sg_Z68 := rfl
theorem run_Z68 (n:Nat) (args:List Dv):run E (n + 1) n_Z68 args = evFn E (mkR (run E n)) sg_Z68 pol_Z68 F_Z68 n args := rfl
theorem sig_impl_dot_eq:E.sig n_Z33 = some sg_Z33 := rfl
theorem run_Z33 (n:Nat) (args:List Dv):run E (n + 1) n_Z33 args = evFn E (mkR (run E n)) sg_Z33 pol_Z33 F_Z33 n args := rfl
theorem sig_impl_Matrix_row_eq:E.sig n_Z8 = some sg_Z8 := rfl
theorem run_Z8 (n:Nat) (args:List Dv):run E (n + 1) n_Z8 args = evFn E (mkR (run E n)) sg_Z8 pol_Z8 F_Z8 n args := rfl
theorem sig_impl_contains_eq:E.sig n_Z29 = some sg_Z29 := rfl
theorem run_Z29 (n:Nat) (args:List Dv):run E (n + 1) n_Z29 args = evFn E (mkR (run E n)) sg_Z29 pol_Z29 F_Z29 n args := rfl
theorem sig_spec_l05Simplex_eq:E.sig n_Z152 = some sg_Z152 := rfl
theorem run_Z152 (n:Nat) (args:List Dv):run E (n + 1) n_Z152 args = evFn E (mkR (run E n)) sg_Z152 pol_Z152 F_Z152 n args := rfl
theorem sig_spec_l05Before_eq:E.sig n_Z145 = some sg_Z145 := rfl
theorem run_Z145 (n:Nat) (args:List Dv):run E (n + 1) n_Z145 args = evFn E (mkR (run E n)) sg_Z145 pol_Z145 F_Z145 n args := rfl
theorem sig_spec_l05Drop_eq:E.sig n_Z147 = some sg_Z147 := rfl
theorem run_Z147 (n:Nat) (args:List Dv):run E (n + 1) n_Z147 args = evFn E (mkR (run E n)) sg_Z147 pol_Z147 F_Z147 n args := rfl
theorem sig_spec_l07Spans_eq:E.sig n_Z155 = some sg_Z155 := rfl
theorem run_Z155 (n:Nat) (args:List Dv):run E (n + 1) n_Z155 args = evFn E (mkR (run E n)) sg_Z155 pol_Z155 F_Z155 n args := rfl
theorem sig_spec_l03Reduced_eq:E.sig n_Z140 = some sg_Z140 := rfl
theorem run_Z140 (n:Nat) (args:List Dv):run E (n + 1) n_Z140 args = evFn E (mkR (run E n)) sg_Z140 pol_Z140 F_Z140 n args := rfl
theorem sig_spec_l00Has_eq:E.sig n_Z128 = some sg_Z128 := rfl
theorem run_Z128 (n:Nat) (args:List Dv):run E (n + 1) n_Z128 args = evFn E (mkR (run E n)) sg_Z128 pol_Z128 F_Z128 n args := rfl
theorem sig_spec_l03Mod_eq:E.sig n_Z138 = some sg_Z138 := rfl
theorem run_Z138 (n:Nat) (args:List Dv):run E (n + 1) n_Z138 args = evFn E (mkR (run E n)) sg_Z138 pol_Z138 F_Z138 n args := rfl
theorem sig_impl_ValidSimplex_eq:E.sig n_Z15 = some sg_Z15 := rfl
theorem run_Z15 (n:Nat) (args:List Dv):run E (n + 1) n_Z15 args = evFn E (mkR (run E n)) sg_Z15 pol_Z15 F_Z15 n args := rfl
theorem sig_slices_ContainsFunc_SSint64_Sint64_eq:E.sig n_Z106 = some sg_Z106 := rfl
theorem run_Z106 (n:Nat) (args:List Dv):run E (n + 1) n_Z106 args = evFn E (mkR (run E n)) sg_Z106 pol_Z106 F_Z106 n args := rfl
theorem sig_impl_facesOf_eq:E.sig n_Z37 = some sg_Z37 := rfl
theorem run_Z37 (n:Nat) (args:List Dv):run E (n + 1) n_Z37 args = evFn E (mkR (run E n)) sg_Z37 pol_Z37 F_Z37 n args := rfl
theorem sig_impl_ValidComplex_1_eq:E.sig n_Z11 = some sg_Z11 := rfl
theorem run_Z11 (n:Nat) (args:List Dv):run E (n + 1) n_Z11 args = evFn E (mkR (run E n)) sg_Z11 pol_Z11 F_Z11 n args := rfl
theorem sig_impl_within_eq:E.sig n_Z71 = some sg_Z71 := rfl
theorem run_Z71 (n:Nat) (args:List Dv):run E (n + 1) n_Z71 args = evFn E (mkR (run E n)) sg_Z71 pol_Z71 F_Z71 n args := rfl
theorem sig_impl_rowsOf_eq:E.sig n_Z63 = some sg_Z63 := rfl
theorem run_Z63 (n:Nat) (args:List Dv):run E (n + 1) n_Z63 args = evFn E (mkR (run E n)) sg_Z63 pol_Z63 F_Z63 n args := rfl
theorem sig_impl_eliminate_eq:E.sig n_Z34 = some sg_Z34 := rfl
theorem run_Z34 (n:Nat) (args:List Dv):run E (n + 1) n_Z34 args = evFn E (mkR (run E n)) sg_Z34 pol_Z34 F_Z34 n args := rfl
theorem sig_slices_Contains_Sint64_int64_eq:E.sig n_Z113 = some sg_Z113 := rfl
theorem run_Z113 (n:Nat) (args:List Dv):run E (n + 1) n_Z113 args = evFn E (mkR (run E n)) sg_Z113 pol_Z113 F_Z113 n args := rfl
theorem sig_impl_reduce_eq:E.sig n_Z62 = some sg_Z62 := rfl
theorem run_Z62 (n:Nat) (args:List Dv):run E (n + 1) n_Z62 args = evFn E (mkR (run E n)) sg_Z62 pol_Z62 F_Z62 n args := rfl
theorem sig_impl_faceIndices_eq:E.sig n_Z36 = some sg_Z36 := rfl
theorem run_Z36 (n:Nat) (args:List Dv):run E (n + 1) n_Z36 args = evFn E (mkR (run E n)) sg_Z36 pol_Z36 F_Z36 n args := rfl
theorem sig_spec_l03Join_eq:E.sig n_Z136 = some sg_Z136 := rfl
theorem run_Z136 (n:Nat) (args:List Dv):run E (n + 1) n_Z136 args = evFn E (mkR (run E n)) sg_Z136 pol_Z136 F_Z136 n args := rfl
theorem sig_slices_ContainsFunc_Sint64_int64_eq:E.sig n_Z108 = some sg_Z108 := rfl
theorem run_Z108 (n:Nat) (args:List Dv):run E (n + 1) n_Z108 args = evFn E (mkR (run E n)) sg_Z108 pol_Z108 F_Z108 n args := rfl
theorem sig_impl_isZero_1_eq:E.sig n_Z55 = some sg_Z55 := rfl
theorem run_Z55 (n:Nat) (args:List Dv):run E (n + 1) n_Z55 args = evFn E (mkR (run E n)) sg_Z55 pol_Z55 F_Z55 n args := rfl
theorem sig_impl_filled_eq:E.sig n_Z38 = some sg_Z38 := rfl
theorem run_Z38 (n:Nat) (args:List Dv):run E (n + 1) n_Z38 args = evFn E (mkR (run E n)) sg_Z38 pol_Z38 F_Z38 n args := rfl
theorem sig_impl_transpose_1_eq:E.sig n_Z70 = some sg_Z70 := rfl
theorem run_Z70 (n:Nat) (args:List Dv):run E (n + 1) n_Z70 args = evFn E (mkR (run E n)) sg_Z70 pol_Z70 F_Z70 n args := rfl
theorem sig_impl_Matrix_at_eq:E.sig n_Z7 = some sg_Z7 := rfl
theorem run_Z7 (n:Nat) (args:List Dv):run E (n + 1) n_Z7 args = evFn E (mkR (run E n)) sg_Z7 pol_Z7 F_Z7 n args := rfl
theorem sig_slices_Concat_Sint64_int64_eq:E.sig n_Z105 = some sg_Z105 := rfl
theorem run_Z105 (n:Nat) (args:List Dv):run E (n + 1) n_Z105 args = evFn E (mkR (run E n)) sg_Z105 pol_Z105 F_Z105 n args := rfl
theorem sig_impl_zero_1_eq:E.sig n_Z74 = some sg_Z74 := rfl
theorem run_Z74 (n:Nat) (args:List Dv):run E (n + 1) n_Z74 args = evFn E (mkR (run E n)) sg_Z74 pol_Z74 F_Z74 n args := rfl
theorem sig_slices_BinarySearchFunc_SSint64_Sint64_Sint64_eq:E.sig n_Z101 = some sg_Z101 := rfl
theorem run_Z101 (n:Nat) (args:List Dv):run E (n + 1) n_Z101 args = evFn E (mkR (run E n)) sg_Z101 pol_Z101 F_Z101 n args := rfl
theorem sig_spec_l09Stalks_eq:E.sig n_Z163 = some sg_Z163 := rfl
theorem run_Z163 (n:Nat) (args:List Dv):run E (n + 1) n_Z163 args = evFn E (mkR (run E n)) sg_Z163 pol_Z163 F_Z163 n args := rfl
theorem sig_spec_l09Count_eq:E.sig n_Z157 = some sg_Z157 := rfl
theorem run_Z157 (n:Nat) (args:List Dv):run E (n + 1) n_Z157 args = evFn E (mkR (run E n)) sg_Z157 pol_Z157 F_Z157 n args := rfl
theorem sig_spec_l09Map_eq:E.sig n_Z160 = some sg_Z160 := rfl
theorem run_Z160 (n:Nat) (args:List Dv):run E (n + 1) n_Z160 args = evFn E (mkR (run E n)) sg_Z160 pol_Z160 F_Z160 n args := rfl
theorem sig_spec_l09Place_eq:E.sig n_Z162 = some sg_Z162 := rfl
theorem run_Z162 (n:Nat) (args:List Dv):run E (n + 1) n_Z162 args = evFn E (mkR (run E n)) sg_Z162 pol_Z162 F_Z162 n args := rfl
theorem sig_spec_l09Two_eq:E.sig n_Z165 = some sg_Z165 := rfl
theorem run_Z165 (n:Nat) (args:List Dv):run E (n + 1) n_Z165 args = evFn E (mkR (run E n)) sg_Z165 pol_Z165 F_Z165 n args := rfl
theorem sig_spec_l03Same_eq:E.sig n_Z141 = some sg_Z141 := rfl
theorem run_Z141 (n:Nat) (args:List Dv):run E (n + 1) n_Z141 args = evFn E (mkR (run E n)) sg_Z141 pol_Z141 F_Z141 n args := rfl
theorem sig_impl_areStalks_eq:E.sig n_Z21 = some sg_Z21 := rfl
theorem run_Z21 (n:Nat) (args:List Dv):run E (n + 1) n_Z21 args = evFn E (mkR (run E n)) sg_Z21 pol_Z21 F_Z21 n args := rfl
theorem sig_impl_arrows_eq:E.sig n_Z23 = some sg_Z23 := rfl
theorem run_Z23 (n:Nat) (args:List Dv):run E (n + 1) n_Z23 args = evFn E (mkR (run E n)) sg_Z23 pol_Z23 F_Z23 n args := rfl
theorem sig_impl_isBetween_eq:E.sig n_Z48 = some sg_Z48 := rfl
theorem run_Z48 (n:Nat) (args:List Dv):run E (n + 1) n_Z48 args = evFn E (mkR (run E n)) sg_Z48 pol_Z48 F_Z48 n args := rfl
theorem sig_impl_product_eq:E.sig n_Z60 = some sg_Z60 := rfl
theorem run_Z60 (n:Nat) (args:List Dv):run E (n + 1) n_Z60 args = evFn E (mkR (run E n)) sg_Z60 pol_Z60 F_Z60 n args := rfl
theorem sig_impl_direct_eq:E.sig n_Z32 = some sg_Z32 := rfl
theorem run_Z32 (n:Nat) (args:List Dv):run E (n + 1) n_Z32 args = evFn E (mkR (run E n)) sg_Z32 pol_Z32 F_Z32 n args := rfl
theorem sig_impl_SameMatrix_eq:E.sig n_Z9 = some sg_Z9 := rfl
theorem run_Z9 (n:Nat) (args:List Dv):run E (n + 1) n_Z9 args = evFn E (mkR (run E n)) sg_Z9 pol_Z9 F_Z9 n args := rfl
theorem sig_impl_firstColumn_eq:E.sig n_Z42 = some sg_Z42 := rfl
theorem run_Z42 (n:Nat) (args:List Dv):run E (n + 1) n_Z42 args = evFn E (mkR (run E n)) sg_Z42 pol_Z42 F_Z42 n args := rfl
theorem sig_spec_l00Same_eq:E.sig n_Z132 = some sg_Z132 := rfl
theorem run_Z132 (n:Nat) (args:List Dv):run E (n + 1) n_Z132 args = evFn E (mkR (run E n)) sg_Z132 pol_Z132 F_Z132 n args := rfl
theorem sig_slices_Clone_Sint64_int64_eq:E.sig n_Z103 = some sg_Z103 := rfl
theorem run_Z103 (n:Nat) (args:List Dv):run E (n + 1) n_Z103 args = evFn E (mkR (run E n)) sg_Z103 pol_Z103 F_Z103 n args := rfl
theorem sig_cmp_Or_int_eq:E.sig n_Z2 = some sg_Z2 := rfl
theorem run_Z2 (n:Nat) (args:List Dv):run E (n + 1) n_Z2 args = evFn E (mkR (run E n)) sg_Z2 pol_Z2 F_Z2 n args := rfl
theorem sig_cmp_Compare_int_eq:E.sig n_Z0 = some sg_Z0 := rfl
theorem run_Z0 (n:Nat) (args:List Dv):run E (n + 1) n_Z0 args = evFn E (mkR (run E n)) sg_Z0 pol_Z0 F_Z0 n args := rfl
theorem sig_slices_Compare_Sint64_int64_eq:E.sig n_Z104 = some sg_Z104 := rfl
theorem run_Z104 (n:Nat) (args:List Dv):run E (n + 1) n_Z104 args = evFn E (mkR (run E n)) sg_Z104 pol_Z104 F_Z104 n args := rfl
theorem sig_impl_areElements_eq:E.sig n_Z19 = some sg_Z19 := rfl
theorem run_Z19 (n:Nat) (args:List Dv):run E (n + 1) n_Z19 args = evFn E (mkR (run E n)) sg_Z19 pol_Z19 F_Z19 n args := rfl
theorem sig_impl_coordinates_eq:E.sig n_Z30 = some sg_Z30 := rfl
theorem run_Z30 (n:Nat) (args:List Dv):run E (n + 1) n_Z30 args = evFn E (mkR (run E n)) sg_Z30 pol_Z30 F_Z30 n args := rfl
theorem sig_spec_l00Rises_eq:E.sig n_Z131 = some sg_Z131 := rfl
theorem run_Z131 (n:Nat) (args:List Dv):run E (n + 1) n_Z131 args = evFn E (mkR (run E n)) sg_Z131 pol_Z131 F_Z131 n args := rfl
theorem sig_spec_l03Inverse_eq:E.sig n_Z135 = some sg_Z135 := rfl
theorem run_Z135 (n:Nat) (args:List Dv):run E (n + 1) n_Z135 args = evFn E (mkR (run E n)) sg_Z135 pol_Z135 F_Z135 n args := rfl
theorem sig_impl_isRising_eq:E.sig n_Z51 = some sg_Z51 := rfl
theorem run_Z51 (n:Nat) (args:List Dv):run E (n + 1) n_Z51 args = evFn E (mkR (run E n)) sg_Z51 pol_Z51 F_Z51 n args := rfl
theorem sig_impl_ValidSimplex_1_eq:E.sig n_Z16 = some sg_Z16 := rfl
theorem run_Z16 (n:Nat) (args:List Dv):run E (n + 1) n_Z16 args = evFn E (mkR (run E n)) sg_Z16 pol_Z16 F_Z16 n args := rfl
theorem sig_impl_isVertex_eq:E.sig n_Z53 = some sg_Z53 := rfl
theorem run_Z53 (n:Nat) (args:List Dv):run E (n + 1) n_Z53 args = evFn E (mkR (run E n)) sg_Z53 pol_Z53 F_Z53 n args := rfl
theorem sig_slices_IndexFunc_SSint64_Sint64_eq:E.sig n_Z116 = some sg_Z116 := rfl
theorem run_Z116 (n:Nat) (args:List Dv):run E (n + 1) n_Z116 args = evFn E (mkR (run E n)) sg_Z116 pol_Z116 F_Z116 n args := rfl
theorem sig_impl_eliminate_1_eq:E.sig n_Z35 = some sg_Z35 := rfl
theorem run_Z35 (n:Nat) (args:List Dv):run E (n + 1) n_Z35 args = evFn E (mkR (run E n)) sg_Z35 pol_Z35 F_Z35 n args := rfl
theorem sig_impl_addTimes_eq:E.sig n_Z17 = some sg_Z17 := rfl
theorem run_Z17 (n:Nat) (args:List Dv):run E (n + 1) n_Z17 args = evFn E (mkR (run E n)) sg_Z17 pol_Z17 F_Z17 n args := rfl
theorem sig_impl_inverseOf_eq:E.sig n_Z47 = some sg_Z47 := rfl
theorem run_Z47 (n:Nat) (args:List Dv):run E (n + 1) n_Z47 args = evFn E (mkR (run E n)) sg_Z47 pol_Z47 F_Z47 n args := rfl
theorem sig_slices_IndexFunc_Sint64_int64_eq:E.sig n_Z119 = some sg_Z119 := rfl
theorem run_Z119 (n:Nat) (args:List Dv):run E (n + 1) n_Z119 args = evFn E (mkR (run E n)) sg_Z119 pol_Z119 F_Z119 n args := rfl
theorem sig_slices_Grow_Sint64_int64_eq:E.sig n_Z115 = some sg_Z115 := rfl
theorem sig_spec_l03Ok_eq:E.sig n_Z139 = some sg_Z139 := rfl
theorem run_Z139 (n:Nat) (args:List Dv):run E (n + 1) n_Z139 args = evFn E (mkR (run E n)) sg_Z139 pol_Z139 F_Z139 n args := rfl
theorem sig_spec_l03Times_eq:E.sig n_Z143 = some sg_Z143 := rfl
theorem run_Z143 (n:Nat) (args:List Dv):run E (n + 1) n_Z143 args = evFn E (mkR (run E n)) sg_Z143 pol_Z143 F_Z143 n args := rfl
theorem sig_impl_areStalks_1_eq:E.sig n_Z22 = some sg_Z22 := rfl
theorem run_Z22 (n:Nat) (args:List Dv):run E (n + 1) n_Z22 args = evFn E (mkR (run E n)) sg_Z22 pol_Z22 F_Z22 n args := rfl
theorem sig_impl_ValidMatrix_eq:E.sig n_Z12 = some sg_Z12 := rfl
theorem run_Z12 (n:Nat) (args:List Dv):run E (n + 1) n_Z12 args = evFn E (mkR (run E n)) sg_Z12 pol_Z12 F_Z12 n args := rfl
theorem sig_impl_product_1_eq:E.sig n_Z61 = some sg_Z61 := rfl
theorem run_Z61 (n:Nat) (args:List Dv):run E (n + 1) n_Z61 args = evFn E (mkR (run E n)) sg_Z61 pol_Z61 F_Z61 n args := rfl
theorem sig_impl_firstMap_eq:E.sig n_Z43 = some sg_Z43 := rfl
theorem run_Z43 (n:Nat) (args:List Dv):run E (n + 1) n_Z43 args = evFn E (mkR (run E n)) sg_Z43 pol_Z43 F_Z43 n args := rfl
theorem sig_cmp_isNaN_int_eq:E.sig n_Z3 = some sg_Z3 := rfl
theorem run_Z3 (n:Nat) (args:List Dv):run E (n + 1) n_Z3 args = evFn E (mkR (run E n)) sg_Z3 pol_Z3 F_Z3 n args := rfl
theorem sig_cmp_Compare_int64_eq:E.sig n_Z1 = some sg_Z1 := rfl
theorem run_Z1 (n:Nat) (args:List Dv):run E (n + 1) n_Z1 args = evFn E (mkR (run E n)) sg_Z1 pol_Z1 F_Z1 n args := rfl
theorem sig_impl_areElements_1_eq:E.sig n_Z20 = some sg_Z20 := rfl
theorem run_Z20 (n:Nat) (args:List Dv):run E (n + 1) n_Z20 args = evFn E (mkR (run E n)) sg_Z20 pol_Z20 F_Z20 n args := rfl
theorem sig_impl_isElement_eq:E.sig n_Z50 = some sg_Z50 := rfl
theorem run_Z50 (n:Nat) (args:List Dv):run E (n + 1) n_Z50 args = evFn E (mkR (run E n)) sg_Z50 pol_Z50 F_Z50 n args := rfl
theorem sig_impl_placesOf_eq:E.sig n_Z57 = some sg_Z57 := rfl
theorem run_Z57 (n:Nat) (args:List Dv):run E (n + 1) n_Z57 args = evFn E (mkR (run E n)) sg_Z57 pol_Z57 F_Z57 n args := rfl
theorem sig_impl_powerOf_eq:E.sig n_Z59 = some sg_Z59 := rfl
theorem run_Z59 (n:Nat) (args:List Dv):run E (n + 1) n_Z59 args = evFn E (mkR (run E n)) sg_Z59 pol_Z59 F_Z59 n args := rfl
theorem sig_impl_isSide_eq:E.sig n_Z52 = some sg_Z52 := rfl
theorem run_Z52 (n:Nat) (args:List Dv):run E (n + 1) n_Z52 args = evFn E (mkR (run E n)) sg_Z52 pol_Z52 F_Z52 n args := rfl
theorem sig_cmp_isNaN_int64_eq:E.sig n_Z4 = some sg_Z4 := rfl
theorem run_Z4 (n:Nat) (args:List Dv):run E (n + 1) n_Z4 args = evFn E (mkR (run E n)) sg_Z4 pol_Z4 F_Z4 n args := rfl
theorem sig_impl_placesOf_1_eq:E.sig n_Z58 = some sg_Z58 := rfl
theorem run_Z58 (n:Nat) (args:List Dv):run E (n + 1) n_Z58 args = evFn E (mkR (run E n)) sg_Z58 pol_Z58 F_Z58 n args := rfl
@[reducible] noncomputable def eC (R:Run) (q:Pol) (N:Nat) (l:List Nat) (F:Func) := evCode E R q N (sub l (bodyOf F))
@[reducible] noncomputable def kB (R:Run) (q:Pol) (k:Nat) (K:Kt) := kBlk (maskAt R q.blkM k) k K
@[reducible] noncomputable def kS (R:Run) (q:Pol) (k N:Nat) (l:List Nat) (F:Func) (K:Kt) := kSeq (maskAt R q.seqM k) (evCode E R q N (sub l (bodyOf F))) K
@[reducible] noncomputable def kL (R:Run) (q:Pol) (k N:Nat) (l:List Nat) (F:Func) (n:Nat) (K:Kt) := kLoop (evCode E R q N (sub l (bodyOf F))) (maskAt R q.loopM k) n K
@[reducible] noncomputable def lC (R:Run) (q:Pol) (k N:Nat) (l:List Nat) (F:Func) (n:Nat) (s:Ve.St) (K:Kt) := loopC (evCode E R q N (sub l (bodyOf F))) (maskAt R q.loopM k) n s K
end VeT

open Go Go.Proofs Ve
set_option linter.unusedVariables false
set_option maxRecDepth 100000
namespace VeT
@[reducible] noncomputable def q0_0 (R:Run) (N:Nat):=kS R pol_Z151 5 N [1,1,0,1,0,0,1,1] F_Z151
@[reducible] noncomputable def q0_1 (R:Run) (N:Nat):=kS R pol_Z151 14 N [1,1,1] F_Z151
@[reducible] noncomputable def q0_2 (R:Run) (N:Nat):=kS R pol_Z161 11 N [1,1,1] F_Z161
@[reducible] noncomputable def q0_3 (R:Run) (N:Nat):=kS R pol_Z143 14 N [1,1,1] F_Z143
@[reducible] noncomputable def q0_4 (R:Run) (N:Nat):=kS R pol_Z166 3 N [1,0,1,0,0,1,1] F_Z166
@[reducible] noncomputable def q0_5 (R:Run) (N:Nat):=kS R pol_Z166 15 N [1,1] F_Z166
@[reducible] noncomputable def q0_6 (R:Run) (N:Nat):=kS R pol_Z170 10 N [1,1,1,0,1,0,0,1,0,0,1,1,1,0,0,1,1] F_Z170
@[reducible] noncomputable def q0_7 (R:Run) (N:Nat):=kS R pol_Z170 5 N [1,1,1,0,1,0,0,1,1] F_Z170
@[reducible] noncomputable def q0_8 (R:Run) (N:Nat):=kS R pol_Z170 21 N [1,1,1,1] F_Z170
@[reducible] noncomputable def q0_9 (R:Run) (N:Nat):=kL R pol_Z151 4 N [1,1,0,1,0,0] F_Z151
@[reducible] noncomputable def q0_10 (R:Run) (N:Nat):=kL R pol_Z166 2 N [1,0,1,0,0] F_Z166
@[reducible] noncomputable def q0_11 (R:Run) (N:Nat):=kL R pol_Z170 4 N [1,1,1,0,1,0,0] F_Z170
@[reducible] noncomputable def q0_12 (R:Run):=kB R pol_Z170 0
theorem Z90.ev (R:Run) (N:Nat) (a0:(List Int)) (a1:Int):evFn E R sg_Z90 pol_Z90 F_Z90 N [⟨yL,a0⟩,⟨yI,a1⟩] = (bif (decide ((w64 (a1 - (List.length a0:Int))) < (0:Int))) then some ⟨o_Z90,((-1:Int),())⟩ else some ⟨o_Z90,((w64 (a1 - (List.length a0:Int))),())⟩) := by kernel_rfl
noncomputable def Z91.l0 (R:Run) (N n:Nat) (a:vK) (b e:Int):Option Dv := R.w (some ⟨(.c (.d yK a)::(.c (.d yI b)::(zd 3 (.c (.d yI e)::(zd 21 []))))),(zo 29 [])⟩) fun st => lC R pol_Z91 5 N [1,1,1,0,1,0,0] F_Z91 n st (kB R pol_Z91 0 (kS R pol_Z91 10 N [1,1,1,1] F_Z91 (kTop E sg_Z91 F_Z91)))
theorem Z91.l0_succ (R:Run) (hw:R.ok) (N n:Nat) (a:vK) (b c:Int):Z91.l0 R N (n + 1) a b c = (bif (decide (c < (List.length a:Int))) then ((idx? a c).bind fun y4 => ((callT R n_Z90 o_Z90 [⟨yL,(y4,()).1⟩,⟨yI,b⟩]).bind fun r5 => (bif (decide (r5.1 < (0:Int))) then some ⟨o_Z91,((-1:Int),())⟩ else (Z91.l0 R N n a r5.1 (w64 (c + (1:Int))))))) else some ⟨o_Z91,(b,())⟩) := (hw _ _).trans (by kernel_rfl)
theorem Z91.ev (R:Run) (N:Nat) (a0:vK) (a1:Int):evFn E R sg_Z91 pol_Z91 F_Z91 N [⟨yK,a0⟩,⟨yI,a1⟩] = (bif (decide ((w64 (a1 - (List.length a0:Int))) < (0:Int))) then some ⟨o_Z91,((-1:Int),())⟩ else (Z91.l0 R N N a0 (w64 (a1 - (List.length a0:Int))) (0:Int))) := by kernel_rfl
theorem Z89.ev (R:Run) (N:Nat) (a0:vK) (a1:Int):evFn E R sg_Z89 pol_Z89 F_Z89 N [⟨yK,a0⟩,⟨yI,a1⟩] = ((callT R n_Z91 o_Z91 [⟨yK,a0⟩,⟨yI,a1⟩]).bind fun r1 => (bif (decide (r1.1 < (0:Int))) then some ⟨o_Z89,((-1:Int),())⟩ else some ⟨o_Z89,(r1.1,())⟩)) := by kernel_rfl
theorem Z92.ev (R:Run) (N:Nat) (a0 a1 a2:Int) (a3:(List Int)) (a4:Int):evFn E R sg_Z92 pol_Z92 F_Z92 N [⟨yI,a0⟩,⟨yI,a1⟩,⟨yI,a2⟩,⟨yL,a3⟩,⟨yI,a4⟩] = ((callT R n_Z90 o_Z90 [⟨yL,a3⟩,⟨yI,a4⟩]).bind fun r1 => (bif (decide (r1.1 < (0:Int))) then some ⟨o_Z92,((-1:Int),())⟩ else some ⟨o_Z92,(r1.1,())⟩)) := by kernel_rfl
noncomputable def Z93.l0 (R:Run) (N n:Nat) (a:vN) (b e:Int):Option Dv := R.w (some ⟨(.c (.d yN a)::(.c (.d yI b)::(zd 3 (.c (.d yI e)::(zd 21 []))))),(zo 29 [])⟩) fun st => lC R pol_Z93 5 N [1,1,1,0,1,0,0] F_Z93 n st (kB R pol_Z93 0 (kS R pol_Z93 10 N [1,1,1,1] F_Z93 (kTop E sg_Z93 F_Z93)))
theorem Z93.l0_succ (R:Run) (hw:R.ok) (N n:Nat) (a:vN) (b c:Int):Z93.l0 R N (n + 1) a b c = (bif (decide (c < (List.length a:Int))) then ((idx? a c).bind fun y4 => ((callT R n_Z92 o_Z92 [⟨yI,y4.1⟩,⟨yI,y4.2.1⟩,⟨yI,y4.2.2.1⟩,⟨yL,y4.2.2.2.1⟩,⟨yI,b⟩]).bind fun r5 => (bif (decide (r5.1 < (0:Int))) then some ⟨o_Z93,((-1:Int),())⟩ else (Z93.l0 R N n a r5.1 (w64 (c + (1:Int))))))) else some ⟨o_Z93,(b,())⟩) := (hw _ _).trans (by kernel_rfl)
theorem Z93.ev (R:Run) (N:Nat) (a0:vN) (a1:Int):evFn E R sg_Z93 pol_Z93 F_Z93 N [⟨yN,a0⟩,⟨yI,a1⟩] = (bif (decide ((w64 (a1 - (List.length a0:Int))) < (0:Int))) then some ⟨o_Z93,((-1:Int),())⟩ else (Z93.l0 R N N a0 (w64 (a1 - (List.length a0:Int))) (0:Int))) := by kernel_rfl
theorem Z94.ev (R:Run) (N:Nat) (a0:vK) (a1:Int) (a2:(List Int)) (a3:vN) (a4:Int):evFn E R sg_Z94 pol_Z94 F_Z94 N [⟨yK,a0⟩,⟨yI,a1⟩,⟨yL,a2⟩,⟨yN,a3⟩,⟨yI,a4⟩] = ((callT R n_Z89 o_Z89 [⟨yK,a0⟩,⟨yI,a4⟩]).bind fun r1 => (bif (decide (r1.1 < (0:Int))) then some ⟨o_Z94,((-1:Int),())⟩ else ((callT R n_Z90 o_Z90 [⟨yL,a2⟩,⟨yI,r1.1⟩]).bind fun r2 => (bif (decide (r2.1 < (0:Int))) then some ⟨o_Z94,((-1:Int),())⟩ else ((callT R n_Z93 o_Z93 [⟨yN,a3⟩,⟨yI,r2.1⟩]).bind fun r3 => (bif (decide (r3.1 < (0:Int))) then some ⟨o_Z94,((-1:Int),())⟩ else some ⟨o_Z94,(r3.1,())⟩)))))) := by kernel_rfl
noncomputable def Z96.l0 (R:Run) (N n:Nat) (a:(List Int)) (b:Int) (e:(List Int)):Option Dv := R.w (some ⟨(.c (.d yL a)::(V.dead::(V.dead::(.c (.arr 7)::(.c (.d yI b)::(zd 17 [])))))),(zo 7 (some (.arr yI e true false false)::(zo 15 [])))⟩) fun st => lC R pol_Z96 3 N [1,1,0,1,0,0] F_Z96 n st (kB R pol_Z96 0 (kS R pol_Z96 6 N [1,1,1] F_Z96 (kTop E sg_Z96 F_Z96)))
theorem Z96.l0_succ (R:Run) (hw:R.ok) (N n:Nat) (a:(List Int)) (b:Int) (c:(List Int)):Z96.l0 R N (n + 1) a b c = (bif (decide (b < (List.length a:Int))) then ((idx? a b).bind fun y4 => ((chk (decide (0 ≤ b) && decide (b < (List.length c:Int)))).bind fun _ => (Z96.l0 R N n a (w64 (b + (1:Int))) (List.set c (Int.toNat b) (y4,()).1)))) else some ⟨o_Z96,(c,())⟩) := (hw _ _).trans (by kernel_rfl)
theorem Z96.ev (R:Run) (N:Nat) (a0:(List Int)):evFn E R sg_Z96 pol_Z96 F_Z96 N [⟨yL,a0⟩] = ((chk (decide (0 ≤ (List.length a0:Int)) && decide ((List.length a0:Int) * 8 ≤ 70368744177664))).bind fun _ => (Z96.l0 R N N a0 (0:Int) (List.replicate (Int.toNat (List.length a0:Int)) (0:Int)))) := by kernel_rfl
noncomputable def Z97.l0 (R:Run) (N n:Nat) (a:vK) (b:Int) (e:vK):Option Dv := R.w (some ⟨(.c (.d yK a)::(V.dead::(V.dead::(.c (.arr 7)::(.c (.d yI b)::(zd 18 [])))))),(zo 7 (some (.arr yL e true false false)::(zo 17 [])))⟩) fun st => lC R pol_Z97 3 N [1,1,0,1,0,0] F_Z97 n st (kB R pol_Z97 0 (kS R pol_Z97 6 N [1,1,1] F_Z97 (kTop E sg_Z97 F_Z97)))
theorem Z97.l0_succ (R:Run) (hw:R.ok) (N n:Nat) (a:vK) (b:Int) (c:vK):Z97.l0 R N (n + 1) a b c = (bif (decide (b < (List.length a:Int))) then ((idx? a b).bind fun y4 => ((callT R n_Z96 o_Z96 [⟨yL,(y4,()).1⟩]).bind fun r5 => ((chk (decide (0 ≤ b) && decide (b < (List.length c:Int)))).bind fun _ => (Z97.l0 R N n a (w64 (b + (1:Int))) (List.set c (Int.toNat b) r5.1))))) else some ⟨o_Z97,(c,())⟩) := (hw _ _).trans (by kernel_rfl)
theorem Z97.ev (R:Run) (N:Nat) (a0:vK):evFn E R sg_Z97 pol_Z97 F_Z97 N [⟨yK,a0⟩] = ((chk (decide (0 ≤ (List.length a0:Int)) && decide ((List.length a0:Int) * 24 ≤ 70368744177664))).bind fun _ => (Z97.l0 R N N a0 (0:Int) (List.replicate (Int.toNat (List.length a0:Int)) ([]:List Int)))) := by kernel_rfl
theorem Z95.ev (R:Run) (N:Nat) (a0:vK):evFn E R sg_Z95 pol_Z95 F_Z95 N [⟨yK,a0⟩] = ((callT R n_Z97 o_Z97 [⟨yK,a0⟩]).bind fun r1 => some ⟨o_Z95,(r1.1,())⟩) := by kernel_rfl
theorem Z98.ev (R:Run) (N:Nat) (a0 a1 a2:Int) (a3:(List Int)):evFn E R sg_Z98 pol_Z98 F_Z98 N [⟨yI,a0⟩,⟨yI,a1⟩,⟨yI,a2⟩,⟨yL,a3⟩] = ((callT R n_Z96 o_Z96 [⟨yL,a3⟩]).bind fun r1 => some ⟨o_Z98,(a0,a1,a2,r1.1,())⟩) := by kernel_rfl
noncomputable def Z99.l0 (R:Run) (N n:Nat) (a:vN) (b:Int) (e:vN):Option Dv := R.w (some ⟨(.c (.d yN a)::(V.dead::(V.dead::(.c (.arr 7)::(.c (.d yI b)::(zd 18 [])))))),(zo 7 (some (.arr (.st yM) e true false false)::(zo 17 [])))⟩) fun st => lC R pol_Z99 3 N [1,1,0,1,0,0] F_Z99 n st (kB R pol_Z99 0 (kS R pol_Z99 6 N [1,1,1] F_Z99 (kTop E sg_Z99 F_Z99)))
theorem Z99.l0_succ (R:Run) (hw:R.ok) (N n:Nat) (a:vN) (b:Int) (c:vN):Z99.l0 R N (n + 1) a b c = (bif (decide (b < (List.length a:Int))) then ((idx? a b).bind fun y4 => ((callT R n_Z98 o_Z98 [⟨yI,y4.1⟩,⟨yI,y4.2.1⟩,⟨yI,y4.2.2.1⟩,⟨yL,y4.2.2.2.1⟩]).bind fun r5 => ((chk (decide (0 ≤ b) && decide (b < (List.length c:Int)))).bind fun _ => (Z99.l0 R N n a (w64 (b + (1:Int))) (List.set c (Int.toNat b) (r5.1,r5.2.1,r5.2.2.1,r5.2.2.2.1,())))))) else some ⟨o_Z99,(c,())⟩) := (hw _ _).trans (by kernel_rfl)
theorem Z99.ev (R:Run) (N:Nat) (a0:vN):evFn E R sg_Z99 pol_Z99 F_Z99 N [⟨yN,a0⟩] = ((chk (decide (0 ≤ (List.length a0:Int)) && decide ((List.length a0:Int) * 48 ≤ 70368744177664))).bind fun _ => (Z99.l0 R N N a0 (0:Int) (List.replicate (Int.toNat (List.length a0:Int)) ((0:Int),(0:Int),(0:Int),([]:List Int),())))) := by kernel_rfl
theorem Z100.ev (R:Run) (N:Nat) (a0:vK) (a1:Int) (a2:(List Int)) (a3:vN):evFn E R sg_Z100 pol_Z100 F_Z100 N [⟨yK,a0⟩,⟨yI,a1⟩,⟨yL,a2⟩,⟨yN,a3⟩] = ((callT R n_Z95 o_Z95 [⟨yK,a0⟩]).bind fun r1 => ((callT R n_Z96 o_Z96 [⟨yL,a2⟩]).bind fun r2 => ((callT R n_Z99 o_Z99 [⟨yN,a3⟩]).bind fun r3 => some ⟨o_Z100,(r1.1,a1,r2.1,r3.1,())⟩))) := by kernel_rfl
theorem Z129.ev (R:Run) (N:Nat) (a0 a1 a2:Int):evFn E R sg_Z129 pol_Z129 F_Z129 N [⟨yI,a0⟩,⟨yI,a1⟩,⟨yI,a2⟩] = (bif (decide (a0 ≥ a1)) then some ⟨o_Z129,((decide (a0 ≤ a2)),())⟩ else some ⟨o_Z129,(false,())⟩) := by kernel_rfl
noncomputable def Z131.j1 (R:Run) (N a:Nat) (b:(List Int)) (e f g:Int) (h:Bool):Option Dv := R.w (some ⟨(.c (.d yL b)::(.c (.d yI e)::(.c (.d yI f)::(zd 4 (.c (.d yI g)::(zd 29 (.c (.d .bool h)::[]))))))),(zo 41 [])⟩) fun st => eC R pol_Z131 N [1,0,1,0,0,1,0,0,1] F_Z131 st (kB R pol_Z131 1 (kS R pol_Z131 3 N [1,0,1,0,0,1,1] F_Z131 (kL R pol_Z131 2 N [1,0,1,0,0] F_Z131 a (kB R pol_Z131 0 (kS R pol_Z131 6 N [1,1] F_Z131 (kTop E sg_Z131 F_Z131))))))
noncomputable def Z131.l0 (R:Run) (N n:Nat) (a:(List Int)) (b e f:Int):Option Dv := R.w (some ⟨(.c (.d yL a)::(.c (.d yI b)::(.c (.d yI e)::(zd 4 (.c (.d yI f)::(zd 30 [])))))),(zo 41 [])⟩) fun st => lC R pol_Z131 2 N [1,0,1,0,0] F_Z131 n st (kB R pol_Z131 0 (kS R pol_Z131 6 N [1,1] F_Z131 (kTop E sg_Z131 F_Z131)))
theorem Z131.j1_eq (R:Run) (hw:R.ok) (N a:Nat) (b:(List Int)) (c d e:Int) (f:Bool):Z131.j1 R N a b c d e f = (bif f then some ⟨o_Z131,(false,())⟩ else (Z131.l0 R N a b c d (w64 (e + (1:Int))))) := (hw _ _).trans (by kernel_rfl)
theorem Z131.l0_succ (R:Run) (hw:R.ok) (N n:Nat) (a:(List Int)) (b c d:Int):Z131.l0 R N (n + 1) a b c d = (bif (decide (d < (List.length a:Int))) then ((idx? a d).bind fun y5 => ((callT R n_Z129 o_Z129 [⟨yI,(y5,()).1⟩,⟨yI,b⟩,⟨yI,c⟩]).bind fun r6 => (bif (!r6.1) then (Z131.j1 R N n a b c d true) else (bif (decide (d > (0:Int))) then ((idx? a (w64 (d - (1:Int)))).bind fun y16 => ((idx? a d).bind fun y17 => (Z131.j1 R N n a b c d (decide ((y16,()).1 ≥ (y17,()).1))))) else (Z131.j1 R N n a b c d false))))) else some ⟨o_Z131,(true,())⟩) := (hw _ _).trans (by kernel_rfl)
theorem Z131.ev (R:Run) (N:Nat) (a0:(List Int)) (a1 a2:Int):evFn E R sg_Z131 pol_Z131 F_Z131 N [⟨yL,a0⟩,⟨yI,a1⟩,⟨yI,a2⟩] = (Z131.l0 R N N a0 a1 a2 (0:Int)) := by kernel_rfl
theorem Z152.ev (R:Run) (N:Nat) (a0:(List Int)):evFn E R sg_Z152 pol_Z152 F_Z152 N [⟨yL,a0⟩] = ((callT R n_Z129 o_Z129 [⟨yI,(List.length a0:Int)⟩,⟨yI,(1:Int)⟩,⟨yI,(4:Int)⟩]).bind fun r1 => (bif r1.1 then ((callT R n_Z131 o_Z131 [⟨yL,a0⟩,⟨yI,(0:Int)⟩,⟨yI,(9:Int)⟩]).bind fun r2 => some ⟨o_Z152,(r2.1,())⟩) else some ⟨o_Z152,(false,())⟩)) := by kernel_rfl
noncomputable def Z145.l0 (R:Run) (N n:Nat) (a b:(List Int)) (e:Int):Option Dv := R.w (some ⟨(.c (.d yL a)::(.c (.d yL b)::(zd 3 (.c (.d yI e)::(zd 34 []))))),(zo 42 [])⟩) fun st => lC R pol_Z145 4 N [1,1,0,1,0,0] F_Z145 n st (kB R pol_Z145 0 (kS R pol_Z145 8 N [1,1,1] F_Z145 (kTop E sg_Z145 F_Z145)))
theorem Z145.l0_succ (R:Run) (hw:R.ok) (N n:Nat) (a b:(List Int)) (c:Int):Z145.l0 R N (n + 1) a b c = (bif (decide (c < (List.length a:Int))) then ((idx? a c).bind fun y4 => ((idx? b c).bind fun y5 => (bif ((y4,()).1 != (y5,()).1) then ((idx? a c).bind fun y6 => ((idx? b c).bind fun y7 => some ⟨o_Z145,((decide ((y6,()).1 < (y7,()).1)),())⟩)) else (Z145.l0 R N n a b (w64 (c + (1:Int))))))) else some ⟨o_Z145,(false,())⟩) := (hw _ _).trans (by kernel_rfl)
theorem Z145.ev (R:Run) (N:Nat) (a0 a1:(List Int)):evFn E R sg_Z145 pol_Z145 F_Z145 N [⟨yL,a0⟩,⟨yL,a1⟩] = (bif ((List.length a0:Int) != (List.length a1:Int)) then some ⟨o_Z145,((decide ((List.length a0:Int) < (List.length a1:Int))),())⟩ else (Z145.l0 R N N a0 a1 (0:Int))) := by kernel_rfl
theorem Z130.ev (R:Run) (N:Nat) (a0:(List Int)):evFn E R sg_Z130 pol_Z130 F_Z130 N [⟨yL,a0⟩] = ((chk (decide ((List.length ([]:List Int) + List.length a0) * 8 ≤ 70368744177664))).bind fun _ => some ⟨o_Z130,((([]:List Int) ++ a0),())⟩) := by kernel_rfl
theorem Z147.ev (R:Run) (N:Nat) (a0:(List Int)) (a1:Int):evFn E R sg_Z147 pol_Z147 F_Z147 N [⟨yL,a0⟩,⟨yI,a1⟩] = ((chk (decide (0 ≤ a1) && decide (a1 ≤ (List.length a0:Int)))).bind fun _ => ((callT R n_Z130 o_Z130 [⟨yL,(List.take (Int.toNat a1) a0)⟩]).bind fun r1 => ((chk (decide (0 ≤ (w64 (a1 + (1:Int)))) && decide ((w64 (a1 + (1:Int))) ≤ (List.length a0:Int)))).bind fun _ => ((chk (decide ((List.length r1.1 + List.length (List.drop (Int.toNat (w64 (a1 + (1:Int)))) a0)) * 8 ≤ 70368744177664))).bind fun _ => some ⟨o_Z147,((r1.1 ++ (List.drop (Int.toNat (w64 (a1 + (1:Int)))) a0)),())⟩)))) := by kernel_rfl
noncomputable def Z132.l0 (R:Run) (N n:Nat) (a b:(List Int)) (e:Int):Option Dv := R.w (some ⟨(.c (.d yL a)::(.c (.d yL b)::(zd 3 (.c (.d yI e)::(zd 20 []))))),(zo 28 [])⟩) fun st => lC R pol_Z132 4 N [1,1,0,1,0,0] F_Z132 n st (kB R pol_Z132 0 (kS R pol_Z132 8 N [1,1,1] F_Z132 (kTop E sg_Z132 F_Z132)))
theorem Z132.l0_succ (R:Run) (hw:R.ok) (N n:Nat) (a b:(List Int)) (c:Int):Z132.l0 R N (n + 1) a b c = (bif (decide (c < (List.length a:Int))) then ((idx? a c).bind fun y4 => ((idx? b c).bind fun y5 => (bif ((y4,()).1 != (y5,()).1) then some ⟨o_Z132,(false,())⟩ else (Z132.l0 R N n a b (w64 (c + (1:Int))))))) else some ⟨o_Z132,(true,())⟩) := (hw _ _).trans (by kernel_rfl)
theorem Z132.ev (R:Run) (N:Nat) (a0 a1:(List Int)):evFn E R sg_Z132 pol_Z132 F_Z132 N [⟨yL,a0⟩,⟨yL,a1⟩] = (bif ((List.length a0:Int) != (List.length a1:Int)) then some ⟨o_Z132,(false,())⟩ else (Z132.l0 R N N a0 a1 (0:Int))) := by kernel_rfl
noncomputable def Z149.l0 (R:Run) (N n:Nat) (a:(vK × Unit)) (b:(List Int)) (e:Int):Option Dv := R.w (some ⟨(.c (.ip (.cons yK .nil) a 0)::(.c (.d yL b)::(zd 3 (.c (.d yI e)::(zd 19 []))))),(zo 27 [])⟩) fun st => lC R pol_Z149 2 N [1,0,1,0,0] F_Z149 n st (kB R pol_Z149 0 (kS R pol_Z149 6 N [1,1] F_Z149 (kTop E sg_Z149 F_Z149)))
theorem Z149.l0_succ (R:Run) (hw:R.ok) (N n:Nat) (a:(vK × Unit)) (b:(List Int)) (c:Int):Z149.l0 R N (n + 1) a b c = (bif (decide (c < (List.length a.1:Int))) then ((idx? a.1 c).bind fun y4 => ((callT R n_Z132 o_Z132 [⟨yL,(y4,()).1⟩,⟨yL,b⟩]).bind fun r5 => (bif r5.1 then some ⟨o_Z149,(c,())⟩ else (Z149.l0 R N n a b (w64 (c + (1:Int))))))) else some ⟨o_Z149,((-1:Int),())⟩) := (hw _ _).trans (by kernel_rfl)
theorem Z149.ev (R:Run) (N:Nat) (a0:(vK × Unit)) (a1:(List Int)):evFn E R sg_Z149 pol_Z149 F_Z149 N [⟨(.ptr (.cons yK .nil)),a0⟩,⟨yL,a1⟩] = (Z149.l0 R N N a0 a1 (0:Int)) := by kernel_rfl
noncomputable def Z151.j3 (R:Run) (N a b:Nat) (e:(vK × Unit)) (f:Int) (g:(List Int)) (h:Int) (i:Bool):Option Dv := R.w (some ⟨(.c (.ip (.cons yK .nil) e 0)::(V.dead::(V.dead::(.c (.d yI f)::(.c (.d yL g)::(.c (.d yI h)::(zd 50 (.c (.d .bool i)::(zd 8 []))))))))),(zo 66 [])⟩) fun st => eC R pol_Z151 N [1,1,0,1,0,0,1,0,0,1,1,1,0,0,0,1] F_Z151 st (kS R pol_Z151 12 N [1,1,0,1,0,0,1,0,0,1,1,1,0,0,1] F_Z151 (kL R pol_Z151 10 N [1,1,0,1,0,0,1,0,0,1,1,1,0,0] F_Z151 b (kB R pol_Z151 2 (kB R pol_Z151 1 (q0_0 R N (q0_9 R N a (kB R pol_Z151 0 (q0_1 R N (kTop E sg_Z151 F_Z151)))))))))
noncomputable def Z151.l2 (R:Run) (N a n:Nat) (b:(vK × Unit)) (e:Int) (f:(List Int)) (g:Int):Option Dv := R.w (some ⟨(.c (.ip (.cons yK .nil) b 0)::(V.dead::(V.dead::(.c (.d yI e)::(.c (.d yL f)::(.c (.d yI g)::(zd 59 []))))))),(zo 66 [])⟩) fun st => lC R pol_Z151 10 N [1,1,0,1,0,0,1,0,0,1,1,1,0,0] F_Z151 n st (kB R pol_Z151 2 (kB R pol_Z151 1 (q0_0 R N (q0_9 R N a (kB R pol_Z151 0 (q0_1 R N (kTop E sg_Z151 F_Z151)))))))
noncomputable def Z151.j1 (R:Run) (N a:Nat) (b:(vK × Unit)) (e:Int) (f:(List Int)) (g:Bool):Option Dv := R.w (some ⟨(.c (.ip (.cons yK .nil) b 0)::(V.dead::(V.dead::(.c (.d yI e)::(.c (.d yL f)::(zd 42 (.c (.d .bool g)::(zd 17 [])))))))),(zo 66 [])⟩) fun st => eC R pol_Z151 N [1,1,0,1,0,0,1,0,0,1,0,1] F_Z151 st (kS R pol_Z151 9 N [1,1,0,1,0,0,1,0,0,1,1] F_Z151 (kB R pol_Z151 1 (q0_0 R N (q0_9 R N a (kB R pol_Z151 0 (q0_1 R N (kTop E sg_Z151 F_Z151)))))))
noncomputable def Z151.l0 (R:Run) (N n:Nat) (a:(vK × Unit)) (b:Int):Option Dv := R.w (some ⟨(.c (.ip (.cons yK .nil) a 0)::(V.dead::(V.dead::(.c (.d yI b)::(zd 61 []))))),(zo 66 [])⟩) fun st => lC R pol_Z151 4 N [1,1,0,1,0,0] F_Z151 n st (kB R pol_Z151 0 (q0_1 R N (kTop E sg_Z151 F_Z151)))
theorem Z151.j3_eq (R:Run) (hw:R.ok) (N a b:Nat) (c:(vK × Unit)) (d:Int) (e:(List Int)) (f:Int) (g:Bool):Z151.j3 R N a b c d e f g = (bif g then ((callT R n_Z147 o_Z147 [⟨yL,e⟩,⟨yI,f⟩]).bind fun r18 => ((callT R n_Z149 o_Z149 [⟨(.ptr (.cons yK .nil)),c⟩,⟨yL,r18.1⟩]).bind fun r19 => (bif (decide (r19.1 < (0:Int))) then some ⟨o_Z151,(false,())⟩ else (Z151.l2 R N a b c d e (w64 (f + (1:Int))))))) else (Z151.l0 R N a c (w64 (d + (1:Int))))) := (hw _ _).trans (by kernel_rfl)
theorem Z151.l2_succ (R:Run) (hw:R.ok) (N a n:Nat) (b:(vK × Unit)) (c:Int) (d:(List Int)) (e:Int):Z151.l2 R N a (n + 1) b c d e = (bif (decide (e < (List.length d:Int))) then (Z151.j3 R N a n b c d e (decide ((List.length d:Int) > (1:Int)))) else (Z151.j3 R N a n b c d e false)) := (hw _ _).trans (by kernel_rfl)
theorem Z151.j1_eq (R:Run) (hw:R.ok) (N a:Nat) (b:(vK × Unit)) (c:Int) (d:(List Int)) (e:Bool):Z151.j1 R N a b c d e = (bif e then some ⟨o_Z151,(false,())⟩ else (Z151.l2 R N a N b c d (0:Int))) := (hw _ _).trans (by kernel_rfl)
theorem Z151.l0_succ (R:Run) (hw:R.ok) (N n:Nat) (a:(vK × Unit)) (b:Int):Z151.l0 R N (n + 1) a b = (bif (decide (b < (List.length a.1:Int))) then ((idx? a.1 b).bind fun y3 => ((callT R n_Z152 o_Z152 [⟨yL,(y3,()).1⟩]).bind fun r4 => (bif (!r4.1) then (Z151.j1 R N n a b ((y3,()).1) true) else (bif (decide (b > (0:Int))) then ((idx? a.1 (w64 (b - (1:Int)))).bind fun y31 => ((callT R n_Z145 o_Z145 [⟨yL,(y31,()).1⟩,⟨yL,(y3,()).1⟩]).bind fun r32 => (Z151.j1 R N n a b ((y3,()).1) (!r32.1)))) else (Z151.j1 R N n a b ((y3,()).1) false))))) else some ⟨o_Z151,(true,())⟩) := (hw _ _).trans (by kernel_rfl)
theorem Z151.ev (R:Run) (N:Nat) (a0:(vK × Unit)):evFn E R sg_Z151 pol_Z151 F_Z151 N [⟨(.ptr (.cons yK .nil)),a0⟩] = (bif (decide ((List.length a0.1:Int) > (48:Int))) then some ⟨o_Z151,(false,())⟩ else (Z151.l0 R N N a0 (0:Int))) := by kernel_rfl
noncomputable def Z133.l0 (R:Run) (N n:Nat) (a b:Int):Option Dv := R.w (some ⟨(.c (.d yI a)::(V.dead::(V.dead::(.c (.d yI b)::(zd 14 []))))),(zo 19 [])⟩) fun st => lC R pol_Z133 4 N [1,1,0,1,0,0] F_Z133 n st (kB R pol_Z133 0 (kS R pol_Z133 8 N [1,1,1] F_Z133 (kTop E sg_Z133 F_Z133)))
theorem Z133.l0_succ (R:Run) (hw:R.ok) (N n:Nat) (a b:Int):Z133.l0 R N (n + 1) a b = (bif (decide ((w64 (b * b)) ≤ a)) then ((chk (b != 0)).bind fun _ => (bif ((Int.tmod a b) == (0:Int)) then some ⟨o_Z133,(false,())⟩ else (Z133.l0 R N n a (w64 (b + (1:Int)))))) else some ⟨o_Z133,(true,())⟩) := (hw _ _).trans (by kernel_rfl)
theorem Z133.ev (R:Run) (N:Nat) (a0:Int):evFn E R sg_Z133 pol_Z133 F_Z133 N [⟨yI,a0⟩] = ((callT R n_Z129 o_Z129 [⟨yI,a0⟩,⟨yI,(2:Int)⟩,⟨yI,(251:Int)⟩]).bind fun r1 => (bif (!r1.1) then some ⟨o_Z133,(false,())⟩ else (Z133.l0 R N N a0 (2:Int)))) := by kernel_rfl
theorem Z127.ev (R:Run) (N:Nat) (a0:Int):evFn E R sg_Z127 pol_Z127 F_Z127 N [⟨yI,a0⟩] = ((callT R n_Z133 o_Z133 [⟨yI,a0⟩]).bind fun r1 => some ⟨o_Z127,(r1.1,())⟩) := by kernel_rfl
noncomputable def Z162.l0 (R:Run) (N n:Nat) (a:(vK × Unit)) (b e f g:Int):Option Dv := R.w (some ⟨(.c (.ip (.cons yK .nil) a 0)::(.c (.d yI b)::(.c (.d yI e)::(zd 4 (.c (.d yI f)::(.c (.d yI g)::(zd 27 []))))))),(zo 39 [])⟩) fun st => lC R pol_Z162 3 N [1,1,0,1,0,0] F_Z162 n st (kB R pol_Z162 0 (kS R pol_Z162 7 N [1,1,1] F_Z162 (kTop E sg_Z162 F_Z162)))
theorem Z162.l0_succ (R:Run) (hw:R.ok) (N n:Nat) (a:(vK × Unit)) (b c d e:Int):Z162.l0 R N (n + 1) a b c d e = (bif (decide (e < b)) then ((idx? a.1 e).bind fun y6 => (bif (decide ((List.length (y6,()).1:Int) > (1:Int))) then ((idx? a.1 e).bind fun y7 => (Z162.l0 R N n a b c (w64 (d + (List.length (y7,()).1:Int))) (w64 (e + (1:Int))))) else (Z162.l0 R N n a b c d (w64 (e + (1:Int)))))) else some ⟨o_Z162,((w64 (d + c)),())⟩) := (hw _ _).trans (by kernel_rfl)
theorem Z162.ev (R:Run) (N:Nat) (a0:(vK × Unit)) (a1 a2:Int):evFn E R sg_Z162 pol_Z162 F_Z162 N [⟨(.ptr (.cons yK .nil)),a0⟩,⟨yI,a1⟩,⟨yI,a2⟩] = (Z162.l0 R N N a0 a1 a2 (0:Int) (0:Int)) := by kernel_rfl
noncomputable def Z148.j1 (R:Run) (N a:Nat) (b:(vK × Unit)) (e:(List Int)) (f:Int) (g:Bool) (h:(List Int)):Option Dv := R.w (some ⟨(.c (.ip (.cons yK .nil) b 0)::(zd 4 (.c (.d yL e)::(.c (.arr 15)::(.c (.d yI f)::(zd 16 (.c (.d .bool g)::(zd 11 [])))))))),(zo 15 (some (.arr yI h true false false)::(zo 22 [])))⟩) fun st => eC R pol_Z148 N [1,1,1,0,1,0,0,0,1] F_Z148 st (kS R pol_Z148 6 N [1,1,1,0,1,0,0,1] F_Z148 (kL R pol_Z148 4 N [1,1,1,0,1,0,0] F_Z148 a (kB R pol_Z148 0 (kS R pol_Z148 7 N [1,1,1,1] F_Z148 (kTop E sg_Z148 F_Z148)))))
noncomputable def Z148.l0 (R:Run) (N n:Nat) (a:(vK × Unit)) (b:(List Int)) (e:Int) (f:(List Int)):Option Dv := R.w (some ⟨(.c (.ip (.cons yK .nil) a 0)::(zd 4 (.c (.d yL b)::(.c (.arr 15)::(.c (.d yI e)::(zd 28 [])))))),(zo 15 (some (.arr yI f true false false)::(zo 22 [])))⟩) fun st => lC R pol_Z148 4 N [1,1,1,0,1,0,0] F_Z148 n st (kB R pol_Z148 0 (kS R pol_Z148 7 N [1,1,1,1] F_Z148 (kTop E sg_Z148 F_Z148)))
theorem Z148.j1_eq (R:Run) (hw:R.ok) (N a:Nat) (b:(vK × Unit)) (c:(List Int)) (d:Int) (e:Bool) (f:(List Int)):Z148.j1 R N a b c d e f = (bif e then ((callT R n_Z147 o_Z147 [⟨yL,c⟩,⟨yI,d⟩]).bind fun r11 => ((callT R n_Z149 o_Z149 [⟨(.ptr (.cons yK .nil)),b⟩,⟨yL,r11.1⟩]).bind fun r12 => ((chk (decide ((List.length f + List.length [r12.1]) * 8 ≤ 70368744177664))).bind fun _ => (Z148.l0 R N a b c (w64 (d + (1:Int))) (f ++ [r12.1]))))) else some ⟨o_Z148,(f,())⟩) := (hw _ _).trans (by kernel_rfl)
theorem Z148.l0_succ (R:Run) (hw:R.ok) (N n:Nat) (a:(vK × Unit)) (b:(List Int)) (c:Int) (d:(List Int)):Z148.l0 R N (n + 1) a b c d = (bif (decide (c < (List.length b:Int))) then (Z148.j1 R N n a b c (decide ((List.length b:Int) > (1:Int))) d) else (Z148.j1 R N n a b c false d)) := (hw _ _).trans (by kernel_rfl)
theorem Z148.ev (R:Run) (N:Nat) (a0:(vK × Unit)) (a1:Int):evFn E R sg_Z148 pol_Z148 F_Z148 N [⟨(.ptr (.cons yK .nil)),a0⟩,⟨yI,a1⟩] = ((idx? a0.1 a1).bind fun y1 => (Z148.l0 R N N a0 ((y1,()).1) (0:Int) ([]:List Int))) := by kernel_rfl
noncomputable def Z134.l0 (R:Run) (N n:Nat) (a:(List Int)) (b e f:Int):Option Dv := R.w (some ⟨(.c (.d yL a)::(.c (.d yI b)::(.c (.d yI e)::(zd 4 (.c (.d yI f)::(zd 18 [])))))),(zo 29 [])⟩) fun st => lC R pol_Z134 2 N [1,0,1,0,0] F_Z134 n st (kB R pol_Z134 0 (kS R pol_Z134 6 N [1,1] F_Z134 (kTop E sg_Z134 F_Z134)))
theorem Z134.l0_succ (R:Run) (hw:R.ok) (N n:Nat) (a:(List Int)) (b c d:Int):Z134.l0 R N (n + 1) a b c d = (bif (decide (d < (List.length a:Int))) then ((idx? a d).bind fun y5 => ((callT R n_Z129 o_Z129 [⟨yI,(y5,()).1⟩,⟨yI,(0:Int)⟩,⟨yI,(w64 (c - (1:Int)))⟩]).bind fun r6 => (bif (!r6.1) then some ⟨o_Z134,(false,())⟩ else (Z134.l0 R N n a b c (w64 (d + (1:Int))))))) else some ⟨o_Z134,(((List.length a:Int) == b),())⟩) := (hw _ _).trans (by kernel_rfl)
theorem Z134.ev (R:Run) (N:Nat) (a0:(List Int)) (a1 a2:Int):evFn E R sg_Z134 pol_Z134 F_Z134 N [⟨yL,a0⟩,⟨yI,a1⟩,⟨yI,a2⟩] = (Z134.l0 R N N a0 a1 a2 (0:Int)) := by kernel_rfl
theorem Z139.ev (R:Run) (N:Nat) (a0:vM):evFn E R sg_Z139 pol_Z139 F_Z139 N [⟨(.ptr yM),a0⟩] = ((callT R n_Z127 o_Z127 [⟨yI,a0.1⟩]).bind fun r1 => (bif r1.1 then ((callT R n_Z129 o_Z129 [⟨yI,a0.2.1⟩,⟨yI,(0:Int)⟩,⟨yI,(32:Int)⟩]).bind fun r2 => (bif r2.1 then ((callT R n_Z129 o_Z129 [⟨yI,a0.2.2.1⟩,⟨yI,(0:Int)⟩,⟨yI,(32:Int)⟩]).bind fun r3 => (bif r3.1 then ((callT R n_Z134 o_Z134 [⟨yL,a0.2.2.2.1⟩,⟨yI,(w64 (a0.2.1 * a0.2.2.1))⟩,⟨yI,a0.1⟩]).bind fun r4 => some ⟨o_Z139,(r4.1,())⟩) else some ⟨o_Z139,(false,())⟩)) else some ⟨o_Z139,(false,())⟩)) else some ⟨o_Z139,(false,())⟩)) := by kernel_rfl
theorem Z160.ev (R:Run) (N:Nat) (a0:vS) (a1 a2:Int) (a3:vM):evFn E R sg_Z160 pol_Z160 F_Z160 N [⟨(.ptr yS),a0⟩,⟨yI,a1⟩,⟨yI,a2⟩,⟨(.ptr yM),a3⟩] = ((callT R n_Z148 o_Z148 [⟨(.ptr (.cons yK .nil)),(a0.1,())⟩,⟨yI,a1⟩]).bind fun r1 => ((idx? r1.1 a2).bind fun y2 => ((callT R n_Z139 o_Z139 [⟨(.ptr yM),a3⟩]).bind fun r3 => (bif r3.1 then (bif (a3.1 == a0.2.1) then ((idx? a0.2.2.1 a1).bind fun y4 => (bif (a3.2.1 == (y4,()).1) then ((idx? a0.2.2.1 (y2,()).1).bind fun y5 => some ⟨o_Z160,((a3.2.2.1 == (y5,()).1),())⟩) else some ⟨o_Z160,(false,())⟩)) else some ⟨o_Z160,(false,())⟩) else some ⟨o_Z160,(false,())⟩)))) := by kernel_rfl
noncomputable def Z150.l0 (R:Run) (N n:Nat) (a:(vK × Unit)) (b e:Int) (f:(List Int)):Option Dv := R.w (some ⟨(.c (.ip (.cons yK .nil) a 0)::(.c (.d yI b)::(zd 3 (.c (.arr 7)::(.c (.d yI e)::(zd 26 [])))))),(zo 7 (some (.arr yI f true false false)::(zo 27 [])))⟩) fun st => lC R pol_Z150 3 N [1,1,0,1,0,0] F_Z150 n st (kB R pol_Z150 0 (kS R pol_Z150 7 N [1,1,1] F_Z150 (kTop E sg_Z150 F_Z150)))
theorem Z150.l0_succ (R:Run) (hw:R.ok) (N n:Nat) (a:(vK × Unit)) (b c:Int) (d:(List Int)):Z150.l0 R N (n + 1) a b c d = (bif (decide (c < (List.length a.1:Int))) then ((idx? a.1 c).bind fun y5 => (bif ((List.length (y5,()).1:Int) == (w64 (b + (1:Int)))) then ((chk (decide ((List.length d + List.length [c]) * 8 ≤ 70368744177664))).bind fun _ => (Z150.l0 R N n a b (w64 (c + (1:Int))) (d ++ [c]))) else (Z150.l0 R N n a b (w64 (c + (1:Int))) d))) else some ⟨o_Z150,(d,())⟩) := (hw _ _).trans (by kernel_rfl)
theorem Z150.ev (R:Run) (N:Nat) (a0:(vK × Unit)) (a1:Int):evFn E R sg_Z150 pol_Z150 F_Z150 N [⟨(.ptr (.cons yK .nil)),a0⟩,⟨yI,a1⟩] = (Z150.l0 R N N a0 a1 (0:Int) ([]:List Int)) := by kernel_rfl
noncomputable def Z164.l0 (R:Run) (N n:Nat) (a b:(List Int)) (e f:Int):Option Dv := R.w (some ⟨(V.dead::(.c (.d yL a)::(zd 5 (.c (.d yL b)::(.c (.d yI e)::(.c (.d yI f)::(zd 19 []))))))),(zo 32 [])⟩) fun st => lC R pol_Z164 4 N [1,1,1,0,1,0,0] F_Z164 n st (kB R pol_Z164 0 (kS R pol_Z164 7 N [1,1,1,1] F_Z164 (kTop E sg_Z164 F_Z164)))
theorem Z164.l0_succ (R:Run) (hw:R.ok) (N n:Nat) (a b:(List Int)) (c d:Int):Z164.l0 R N (n + 1) a b c d = (bif (decide (d < (List.length b:Int))) then ((idx? b d).bind fun y6 => ((idx? a (y6,()).1).bind fun y7 => (Z164.l0 R N n a b (w64 (c + (y7,()).1)) (w64 (d + (1:Int)))))) else some ⟨o_Z164,(c,())⟩) := (hw _ _).trans (by kernel_rfl)
theorem Z164.ev (R:Run) (N:Nat) (a0:(vK × Unit)) (a1:(List Int)) (a2:Int):evFn E R sg_Z164 pol_Z164 F_Z164 N [⟨(.ptr (.cons yK .nil)),a0⟩,⟨yL,a1⟩,⟨yI,a2⟩] = ((callT R n_Z150 o_Z150 [⟨(.ptr (.cons yK .nil)),a0⟩,⟨yI,a2⟩]).bind fun r1 => (Z164.l0 R N N a1 r1.1 (0:Int) (0:Int))) := by kernel_rfl
noncomputable def Z163.l0 (R:Run) (N n:Nat) (a:(vK × Unit)) (b:(List Int)) (e:Int):Option Dv := R.w (some ⟨(.c (.ip (.cons yK .nil) a 0)::(.c (.d yL b)::(zd 3 (.c (.d yI e)::(zd 17 []))))),(zo 25 [])⟩) fun st => lC R pol_Z163 4 N [1,1,0,1,0,0] F_Z163 n st (kB R pol_Z163 0 (kS R pol_Z163 8 N [1,1,1] F_Z163 (kTop E sg_Z163 F_Z163)))
theorem Z163.l0_succ (R:Run) (hw:R.ok) (N n:Nat) (a:(vK × Unit)) (b:(List Int)) (c:Int):Z163.l0 R N (n + 1) a b c = (bif (decide (c ≤ (3:Int))) then ((callT R n_Z164 o_Z164 [⟨(.ptr (.cons yK .nil)),a⟩,⟨yL,b⟩,⟨yI,c⟩]).bind fun r5 => (bif (decide (r5.1 > (32:Int))) then some ⟨o_Z163,(false,())⟩ else (Z163.l0 R N n a b (w64 (c + (1:Int)))))) else some ⟨o_Z163,(true,())⟩) := (hw _ _).trans (by kernel_rfl)
theorem Z163.ev (R:Run) (N:Nat) (a0:(vK × Unit)) (a1:(List Int)):evFn E R sg_Z163 pol_Z163 F_Z163 N [⟨(.ptr (.cons yK .nil)),a0⟩,⟨yL,a1⟩] = ((callT R n_Z134 o_Z134 [⟨yL,a1⟩,⟨yI,(List.length a0.1:Int)⟩,⟨yI,(4:Int)⟩]).bind fun r1 => (bif (!r1.1) then some ⟨o_Z163,(false,())⟩ else (Z163.l0 R N N a0 a1 (0:Int)))) := by kernel_rfl
theorem Z157.ev (R:Run) (N:Nat) (a0:(vK × Unit)):evFn E R sg_Z157 pol_Z157 F_Z157 N [⟨(.ptr (.cons yK .nil)),a0⟩] = ((callT R n_Z162 o_Z162 [⟨(.ptr (.cons yK .nil)),a0⟩,⟨yI,(List.length a0.1:Int)⟩,⟨yI,(0:Int)⟩]).bind fun r1 => some ⟨o_Z157,(r1.1,())⟩) := by kernel_rfl
noncomputable def Z161.j3 (R:Run) (N a b:Nat) (e:vS) (f g:Int) (h:Bool):Option Dv := R.w (some ⟨(.c (.ip yS e 0)::(V.dead::(V.dead::(.c (.d yI f)::(.c (.d yI g)::(zd 68 (.c (.d .bool h)::(zd 18 [])))))))),(zo 93 [])⟩) fun st => eC R pol_Z161 N [1,1,0,1,0,0,1,0,0,1,0,0,0,1] F_Z161 st (kS R pol_Z161 9 N [1,1,0,1,0,0,1,0,0,1,0,0,1] F_Z161 (kL R pol_Z161 7 N [1,1,0,1,0,0,1,0,0,1,0,0] F_Z161 b (kB R pol_Z161 2 (kB R pol_Z161 1 (kS R pol_Z161 5 N [1,1,0,1,0,0,1,1] F_Z161 (kL R pol_Z161 4 N [1,1,0,1,0,0] F_Z161 a (kB R pol_Z161 0 (q0_2 R N (kTop E sg_Z161 F_Z161)))))))))
noncomputable def Z161.l2 (R:Run) (N a n:Nat) (b:vS) (e f:Int):Option Dv := R.w (some ⟨(.c (.ip yS b 0)::(V.dead::(V.dead::(.c (.d yI e)::(.c (.d yI f)::(zd 87 [])))))),(zo 93 [])⟩) fun st => lC R pol_Z161 7 N [1,1,0,1,0,0,1,0,0,1,0,0] F_Z161 n st (kB R pol_Z161 2 (kB R pol_Z161 1 (kS R pol_Z161 5 N [1,1,0,1,0,0,1,1] F_Z161 (kL R pol_Z161 4 N [1,1,0,1,0,0] F_Z161 a (kB R pol_Z161 0 (q0_2 R N (kTop E sg_Z161 F_Z161)))))))
noncomputable def Z161.l1 (R:Run) (N n:Nat) (a:vS) (b:Int):Option Dv := R.w (some ⟨(.c (.ip yS a 0)::(V.dead::(V.dead::(.c (.d yI b)::(zd 88 []))))),(zo 93 [])⟩) fun st => lC R pol_Z161 4 N [1,1,0,1,0,0] F_Z161 n st (kB R pol_Z161 0 (q0_2 R N (kTop E sg_Z161 F_Z161)))
noncomputable def Z161.j0 (R:Run) (N:Nat) (a:vS) (b:Bool):Option Dv := R.w (some ⟨(.c (.ip yS a 0)::(zd 39 (.c (.d .bool b)::(zd 51 [])))),(zo 93 [])⟩) fun st => eC R pol_Z161 N [1,0,1] F_Z161 st (kS R pol_Z161 3 N [1,1] F_Z161 (kTop E sg_Z161 F_Z161))
theorem Z161.j3_eq (R:Run) (hw:R.ok) (N a b:Nat) (c:vS) (d e:Int) (f:Bool):Z161.j3 R N a b c d e f = (bif f then ((callT R n_Z162 o_Z162 [⟨(.ptr (.cons yK .nil)),(c.1,())⟩,⟨yI,d⟩,⟨yI,e⟩]).bind fun r15 => ((idx? c.2.2.2.1 r15.1).bind fun y16 => ((callT R n_Z160 o_Z160 [⟨(.ptr yS),c⟩,⟨yI,d⟩,⟨yI,e⟩,⟨(.ptr yM),y16⟩]).bind fun r17 => (bif (!r17.1) then some ⟨o_Z161,(false,())⟩ else (Z161.l2 R N a b c d (w64 (e + (1:Int)))))))) else (Z161.l1 R N a c (w64 (d + (1:Int))))) := (hw _ _).trans (by kernel_rfl)
theorem Z161.l2_succ (R:Run) (hw:R.ok) (N a n:Nat) (b:vS) (c d:Int):Z161.l2 R N a (n + 1) b c d = ((idx? b.1 c).bind fun y9 => (bif (decide (d < (List.length (y9,()).1:Int))) then ((idx? b.1 c).bind fun y10 => (Z161.j3 R N a n b c d (decide ((List.length (y10,()).1:Int) > (1:Int))))) else (Z161.j3 R N a n b c d false))) := (hw _ _).trans (by kernel_rfl)
theorem Z161.l1_succ (R:Run) (hw:R.ok) (N n:Nat) (a:vS) (b:Int):Z161.l1 R N (n + 1) a b = (bif (decide (b < (List.length a.1:Int))) then (Z161.l2 R N n N a b (0:Int)) else some ⟨o_Z161,(true,())⟩) := (hw _ _).trans (by kernel_rfl)
theorem Z161.j0_eq (R:Run) (hw:R.ok) (N:Nat) (a:vS) (b:Bool):Z161.j0 R N a b = (bif b then some ⟨o_Z161,(false,())⟩ else (Z161.l1 R N N a (0:Int))) := (hw _ _).trans (by kernel_rfl)
theorem Z161.ev (R:Run) (N:Nat) (a0:vS):evFn E R sg_Z161 pol_Z161 F_Z161 N [⟨(.ptr yS),a0⟩] = ((callT R n_Z151 o_Z151 [⟨(.ptr (.cons yK .nil)),(a0.1,())⟩]).bind fun r1 => (bif (!r1.1) then (Z161.j0 R N a0 true) else ((callT R n_Z127 o_Z127 [⟨yI,a0.2.1⟩]).bind fun r27 => (bif (!r27.1) then (Z161.j0 R N a0 true) else ((callT R n_Z163 o_Z163 [⟨(.ptr (.cons yK .nil)),(a0.1,())⟩,⟨yL,a0.2.2.1⟩]).bind fun r30 => (bif (!r30.1) then (Z161.j0 R N a0 true) else ((callT R n_Z157 o_Z157 [⟨(.ptr (.cons yK .nil)),(a0.1,())⟩]).bind fun r33 => (Z161.j0 R N a0 ((List.length a0.2.2.2.1:Int) != r33.1))))))))) := by kernel_rfl
theorem Z158.ev (R:Run) (N:Nat) (a0:vS) (a1 a2:Int):evFn E R sg_Z158 pol_Z158 F_Z158 N [⟨(.ptr yS),a0⟩,⟨yI,a1⟩,⟨yI,a2⟩] = ((callT R n_Z162 o_Z162 [⟨(.ptr (.cons yK .nil)),(a0.1,())⟩,⟨yI,a1⟩,⟨yI,a2⟩]).bind fun r1 => ((idx? a0.2.2.2.1 r1.1).bind fun y2 => some ⟨o_Z158,(y2,())⟩)) := by kernel_rfl
theorem Z144.ev (R:Run) (N:Nat) (a0 a1 a2:Int):evFn E R sg_Z144 pol_Z144 F_Z144 N [⟨yI,a0⟩,⟨yI,a1⟩,⟨yI,a2⟩] = ((chk (decide (0 ≤ (w64 (a1 * a2))) && decide ((w64 (a1 * a2)) * 8 ≤ 70368744177664))).bind fun _ => some ⟨o_Z144,(a0,a1,a2,(List.replicate (Int.toNat (w64 (a1 * a2))) (0:Int)),())⟩) := by kernel_rfl
noncomputable def Z143.l3 (R:Run) (N a b n:Nat) (e f:vM) (g h i j k l m o p q:Int) (r:(List Int)):Option Dv := R.w (some ⟨(.c (.ip yM e 0)::(.c (.ip yM f 0)::(V.dead::(V.dead::(.c (.box 4 0)::(.c (.box 5 0)::(.c (.d yI g)::(.c (.d yI h)::(.c (.d yI i)::(.c (.d yI j)::(zd 86 []))))))))))),(zo 4 (some (.box [.d yI k,.d yI l,.d yI m,.nils yI] false false)::(some (.box [.d yI o,.d yI p,.d yI q,.arr 98] false false)::(zo 92 (some (.arr yI r true false false)::[])))))⟩) fun st => lC R pol_Z143 10 N [1,1,0,1,0,0,1,0,0,1,0,0,1,0,0,1,0,1,0,0] F_Z143 n st (kB R pol_Z143 4 (kS R pol_Z143 13 N [1,1,0,1,0,0,1,0,0,1,0,0,1,0,0,1,1] F_Z143 (kB R pol_Z143 3 (kS R pol_Z143 7 N [1,1,0,1,0,0,1,0,0,1,0,0,1,1] F_Z143 (kL R pol_Z143 6 N [1,1,0,1,0,0,1,0,0,1,0,0] F_Z143 b (kB R pol_Z143 2 (kB R pol_Z143 1 (kS R pol_Z143 4 N [1,1,0,1,0,0,1,1] F_Z143 (kL R pol_Z143 3 N [1,1,0,1,0,0] F_Z143 a (kB R pol_Z143 0 (q0_3 R N (kTop E sg_Z143 F_Z143))))))))))))
noncomputable def Z143.l2 (R:Run) (N a n:Nat) (b e:vM) (f g h i j k l m:Int) (o:(List Int)):Option Dv := R.w (some ⟨(.c (.ip yM b 0)::(.c (.ip yM e 0)::(V.dead::(V.dead::(.c (.box 4 0)::(.c (.box 5 0)::(.c (.d yI f)::(.c (.d yI g)::(zd 88 []))))))))),(zo 4 (some (.box [.d yI h,.d yI i,.d yI j,.nils yI] false false)::(some (.box [.d yI k,.d yI l,.d yI m,.arr 98] false false)::(zo 92 (some (.arr yI o true false false)::[])))))⟩) fun st => lC R pol_Z143 6 N [1,1,0,1,0,0,1,0,0,1,0,0] F_Z143 n st (kB R pol_Z143 2 (kB R pol_Z143 1 (kS R pol_Z143 4 N [1,1,0,1,0,0,1,1] F_Z143 (kL R pol_Z143 3 N [1,1,0,1,0,0] F_Z143 a (kB R pol_Z143 0 (q0_3 R N (kTop E sg_Z143 F_Z143)))))))
noncomputable def Z143.l1 (R:Run) (N n:Nat) (a b:vM) (e f g h i j k:Int) (l:(List Int)):Option Dv := R.w (some ⟨(.c (.ip yM a 0)::(.c (.ip yM b 0)::(V.dead::(V.dead::(.c (.box 4 0)::(.c (.box 5 0)::(.c (.d yI e)::(zd 89 [])))))))),(zo 4 (some (.box [.d yI f,.d yI g,.d yI h,.nils yI] false false)::(some (.box [.d yI i,.d yI j,.d yI k,.arr 98] false false)::(zo 92 (some (.arr yI l true false false)::[])))))⟩) fun st => lC R pol_Z143 3 N [1,1,0,1,0,0] F_Z143 n st (kB R pol_Z143 0 (q0_3 R N (kTop E sg_Z143 F_Z143)))
noncomputable def Z143.j0 (R:Run) (N:Nat) (a b:vM) (e f g h i j:Int) (k:(List Int)):Option Dv := R.w (some ⟨(.c (.ip yM a 0)::(.c (.ip yM b 0)::(V.dead::(V.dead::(.c (.box 4 0)::(.c (.box 5 0)::(zd 90 []))))))),(zo 4 (some (.box [.d yI e,.d yI f,.d yI g,.nils yI] false false)::(some (.box [.d yI h,.d yI i,.d yI j,.arr 98] false false)::(zo 92 (some (.arr yI k true false false)::[])))))⟩) fun st => eC R pol_Z143 N [1,1] F_Z143 st (kTop E sg_Z143 F_Z143)
theorem Z143.l3_succ (R:Run) (hw:R.ok) (N a b n:Nat) (c d:vM) (e f g h i j k l m o:Int) (p:(List Int)):Z143.l3 R N a b (n + 1) c d e f g h i j k l m o p = (bif (decide (h < c.2.2.1)) then ((idx? c.2.2.2.1 (w64 ((w64 (e * c.2.2.1)) + h))).bind fun y45 => ((idx? d.2.2.2.1 (w64 ((w64 (h * d.2.2.1)) + f))).bind fun y46 => (Z143.l3 R N a b n c d e f (w64 (g + (w64 ((y45,()).1 * (y46,()).1)))) (w64 (h + (1:Int))) i j k l m o p))) else ((chk (c.1 != 0)).bind fun _ => ((chk (decide (0 ≤ (w64 ((w64 (e * d.2.2.1)) + f))) && decide ((w64 ((w64 (e * d.2.2.1)) + f)) < (List.length p:Int)))).bind fun _ => (Z143.l2 R N a b c d e (w64 (f + (1:Int))) i j k l m o (List.set p (Int.toNat (w64 ((w64 (e * d.2.2.1)) + f))) (Int.tmod g c.1)))))) := (hw _ _).trans (by kernel_rfl)
theorem Z143.l2_succ (R:Run) (hw:R.ok) (N a n:Nat) (b c:vM) (d e f g h i j k:Int) (l:(List Int)):Z143.l2 R N a (n + 1) b c d e f g h i j k l = (bif (decide (e < c.2.2.1)) then (Z143.l3 R N a n N b c d e (0:Int) (0:Int) f g h i j k l) else (Z143.l1 R N a b c (w64 (d + (1:Int))) f g h i j k l)) := (hw _ _).trans (by kernel_rfl)
theorem Z143.l1_succ (R:Run) (hw:R.ok) (N n:Nat) (a b:vM) (c d e f g h i:Int) (j:(List Int)):Z143.l1 R N (n + 1) a b c d e f g h i j = (bif (decide (c < a.2.1)) then (Z143.l2 R N n N a b c (0:Int) d e f g h i j) else some ⟨o_Z143,(g,h,i,j,())⟩) := (hw _ _).trans (by kernel_rfl)
theorem Z143.j0_eq (R:Run) (hw:R.ok) (N:Nat) (a b:vM) (c d e f g h:Int) (i:(List Int)):Z143.j0 R N a b c d e f g h i = (Z143.l1 R N N a b (0:Int) c d e f g h i) := (hw _ _).trans (by kernel_rfl)
theorem Z143.ev (R:Run) (N:Nat) (a0 a1:vM):evFn E R sg_Z143 pol_Z143 F_Z143 N [⟨(.ptr yM),a0⟩,⟨(.ptr yM),a1⟩] = (both ((callT R n_Z144 o_Z144 [⟨yI,a0.1⟩,⟨yI,a0.2.1⟩,⟨yI,a1.2.2.1⟩]).bind fun r1 => (Z143.j0 R N a0 a1 (0:Int) (0:Int) (0:Int) r1.1 r1.2.1 r1.2.2.1 r1.2.2.2.1)) ((callT R n_Z144 o_Z144 [⟨yI,a0.1⟩,⟨yI,a0.2.1⟩,⟨yI,a1.2.2.1⟩]).bind fun r81 => (Z143.j0 R N a0 a1 (0:Int) (0:Int) (0:Int) r81.1 r81.2.1 r81.2.2.1 r81.2.2.2.1))) := by kernel_rfl
noncomputable def Z165.j0 (R:Run) (N:Nat) (a:vS) (b e f g h i j:Int):Option Dv := R.w (some ⟨(.c (.ip yS a 0)::(.c (.d yI b)::(.c (.d yI e)::(.c (.d yI f)::(zd 4 (.c (.box 8 0)::(.c (.d yI g)::(zd 22 [])))))))),(zo 8 (some (.box [.d yI h,.d yI i,.d yI j,.nils yI] false false)::(zo 28 [])))⟩) fun st => eC R pol_Z165 N [1,1,1] F_Z165 st (kTop E sg_Z165 F_Z165)
theorem Z165.j0_eq (R:Run) (hw:R.ok) (N:Nat) (a:vS) (b c d e f g h:Int):Z165.j0 R N a b c d e f g h = ((callT R n_Z158 o_Z158 [⟨(.ptr yS),a⟩,⟨yI,b⟩,⟨yI,c⟩]).bind fun r11 => ((callT R n_Z158 o_Z158 [⟨(.ptr yS),a⟩,⟨yI,e⟩,⟨yI,d⟩]).bind fun r12 => ((callT R n_Z143 o_Z143 [⟨(.ptr yM),r11.1⟩,⟨(.ptr yM),r12.1⟩]).bind fun r13 => some ⟨o_Z165,(r13.1,r13.2.1,r13.2.2.1,r13.2.2.2.1,())⟩))) := (hw _ _).trans (by kernel_rfl)
theorem Z165.ev (R:Run) (N:Nat) (a0:vS) (a1 a2 a3:Int):evFn E R sg_Z165 pol_Z165 F_Z165 N [⟨(.ptr yS),a0⟩,⟨yI,a1⟩,⟨yI,a2⟩,⟨yI,a3⟩] = ((callT R n_Z148 o_Z148 [⟨(.ptr (.cons yK .nil)),(a0.1,())⟩,⟨yI,a1⟩]).bind fun r1 => ((idx? r1.1 a2).bind fun y2 => (bif (decide (a3 > a2)) then (Z165.j0 R N a0 a1 a2 (w64 (a3 - (1:Int))) ((y2,()).1) (0:Int) (0:Int) (0:Int)) else (Z165.j0 R N a0 a1 a2 a3 ((y2,()).1) (0:Int) (0:Int) (0:Int))))) := by kernel_rfl
noncomputable def Z141.l1 (R:Run) (N n:Nat) (a b:vM) (e:Int):Option Dv := R.w (some ⟨(.c (.ip yM a 0)::(.c (.ip yM b 0)::(zd 3 (.c (.d yI e)::(zd 68 []))))),(zo 76 [])⟩) fun st => lC R pol_Z141 4 N [1,1,0,1,0,0] F_Z141 n st (kB R pol_Z141 0 (kS R pol_Z141 8 N [1,1,1] F_Z141 (kTop E sg_Z141 F_Z141)))
noncomputable def Z141.j0 (R:Run) (N:Nat) (a b:vM) (e:Bool):Option Dv := R.w (some ⟨(.c (.ip yM a 0)::(.c (.ip yM b 0)::(zd 47 (.c (.d .bool e)::(zd 24 []))))),(zo 76 [])⟩) fun st => eC R pol_Z141 N [1,0,1] F_Z141 st (kS R pol_Z141 3 N [1,1] F_Z141 (kTop E sg_Z141 F_Z141))
theorem Z141.l1_succ (R:Run) (hw:R.ok) (N n:Nat) (a b:vM) (c:Int):Z141.l1 R N (n + 1) a b c = (bif (decide (c < (List.length a.2.2.2.1:Int))) then ((idx? a.2.2.2.1 c).bind fun y7 => ((idx? b.2.2.2.1 c).bind fun y8 => (bif ((y7,()).1 != (y8,()).1) then some ⟨o_Z141,(false,())⟩ else (Z141.l1 R N n a b (w64 (c + (1:Int))))))) else some ⟨o_Z141,(true,())⟩) := (hw _ _).trans (by kernel_rfl)
theorem Z141.j0_eq (R:Run) (hw:R.ok) (N:Nat) (a b:vM) (c:Bool):Z141.j0 R N a b c = (bif c then some ⟨o_Z141,(false,())⟩ else (Z141.l1 R N N a b (0:Int))) := (hw _ _).trans (by kernel_rfl)
theorem Z141.ev (R:Run) (N:Nat) (a0 a1:vM):evFn E R sg_Z141 pol_Z141 F_Z141 N [⟨(.ptr yM),a0⟩,⟨(.ptr yM),a1⟩] = (bif (a0.1 != a1.1) then (Z141.j0 R N a0 a1 true) else (bif (a0.2.1 != a1.2.1) then (Z141.j0 R N a0 a1 true) else (bif (a0.2.2.1 != a1.2.2.1) then (Z141.j0 R N a0 a1 true) else (Z141.j0 R N a0 a1 ((List.length a0.2.2.2.1:Int) != (List.length a1.2.2.2.1:Int)))))) := by kernel_rfl
noncomputable def Z166.l3 (R:Run) (N a b n:Nat) (e:vS) (f g h i:Int):Option Dv := R.w (some ⟨(.c (.ip yS e 0)::(zd 4 (.c (.d yI f)::(.c (.d yI g)::(.c (.d yI h)::(.c (.d yI i)::(zd 52 []))))))),(zo 62 [])⟩) fun st => lC R pol_Z166 9 N [1,0,1,0,0,1,0,0,1,1,0,0,1,0,0,1,0,0] F_Z166 n st (kB R pol_Z166 4 (kB R pol_Z166 3 (kS R pol_Z166 7 N [1,0,1,0,0,1,0,0,1,1,0,0,1,1] F_Z166 (kL R pol_Z166 6 N [1,0,1,0,0,1,0,0,1,1,0,0] F_Z166 b (kB R pol_Z166 2 (kB R pol_Z166 1 (q0_4 R N (q0_10 R N a (kB R pol_Z166 0 (q0_5 R N (kTop E sg_Z166 F_Z166)))))))))))
noncomputable def Z166.j2 (R:Run) (N a b:Nat) (e:vS) (f g h:Int) (i:Bool):Option Dv := R.w (some ⟨(.c (.ip yS e 0)::(zd 4 (.c (.d yI f)::(.c (.d yI g)::(.c (.d yI h)::(zd 28 (.c (.d .bool i)::(zd 24 [])))))))),(zo 62 [])⟩) fun st => eC R pol_Z166 N [1,0,1,0,0,1,0,0,1,1,0,0,0,1] F_Z166 st (kS R pol_Z166 8 N [1,0,1,0,0,1,0,0,1,1,0,0,1] F_Z166 (kL R pol_Z166 6 N [1,0,1,0,0,1,0,0,1,1,0,0] F_Z166 b (kB R pol_Z166 2 (kB R pol_Z166 1 (q0_4 R N (q0_10 R N a (kB R pol_Z166 0 (q0_5 R N (kTop E sg_Z166 F_Z166)))))))))
noncomputable def Z166.l1 (R:Run) (N a n:Nat) (b:vS) (e f g:Int):Option Dv := R.w (some ⟨(.c (.ip yS b 0)::(zd 4 (.c (.d yI e)::(.c (.d yI f)::(.c (.d yI g)::(zd 53 [])))))),(zo 62 [])⟩) fun st => lC R pol_Z166 6 N [1,0,1,0,0,1,0,0,1,1,0,0] F_Z166 n st (kB R pol_Z166 2 (kB R pol_Z166 1 (q0_4 R N (q0_10 R N a (kB R pol_Z166 0 (q0_5 R N (kTop E sg_Z166 F_Z166)))))))
noncomputable def Z166.l0 (R:Run) (N n:Nat) (a:vS) (b:Int):Option Dv := R.w (some ⟨(.c (.ip yS a 0)::(zd 4 (.c (.d yI b)::(zd 55 [])))),(zo 62 [])⟩) fun st => lC R pol_Z166 2 N [1,0,1,0,0] F_Z166 n st (kB R pol_Z166 0 (q0_5 R N (kTop E sg_Z166 F_Z166)))
theorem Z166.l3_succ (R:Run) (hw:R.ok) (N a b n:Nat) (c:vS) (d e f g:Int):Z166.l3 R N a b (n + 1) c d e f g = (bif (decide (g < e)) then ((callT R n_Z165 o_Z165 [⟨(.ptr yS),c⟩,⟨yI,d⟩,⟨yI,f⟩,⟨yI,g⟩]).bind fun r18 => ((callT R n_Z165 o_Z165 [⟨(.ptr yS),c⟩,⟨yI,d⟩,⟨yI,g⟩,⟨yI,f⟩]).bind fun r19 => ((callT R n_Z141 o_Z141 [⟨(.ptr yM),(r18.1,r18.2.1,r18.2.2.1,r18.2.2.2.1,())⟩,⟨(.ptr yM),(r19.1,r19.2.1,r19.2.2.1,r19.2.2.2.1,())⟩]).bind fun r20 => (bif (!r20.1) then some ⟨o_Z166,(d,f,g,())⟩ else (Z166.l3 R N a b n c d e f (w64 (g + (1:Int)))))))) else (Z166.l1 R N a b c d e (w64 (f + (1:Int))))) := (hw _ _).trans (by kernel_rfl)
theorem Z166.j2_eq (R:Run) (hw:R.ok) (N a b:Nat) (c:vS) (d e f:Int) (g:Bool):Z166.j2 R N a b c d e f g = (bif g then (Z166.l3 R N a b N c d e f (w64 (f + (1:Int)))) else (Z166.l0 R N a c (w64 (d + (1:Int))))) := (hw _ _).trans (by kernel_rfl)
theorem Z166.l1_succ (R:Run) (hw:R.ok) (N a n:Nat) (b:vS) (c d e:Int):Z166.l1 R N a (n + 1) b c d e = (bif (decide (e < d)) then (Z166.j2 R N a n b c d e (decide (d > (2:Int)))) else (Z166.j2 R N a n b c d e false)) := (hw _ _).trans (by kernel_rfl)
theorem Z166.l0_succ (R:Run) (hw:R.ok) (N n:Nat) (a:vS) (b:Int):Z166.l0 R N (n + 1) a b = (bif (decide (b < (List.length a.1:Int))) then ((idx? a.1 b).bind fun y3 => (Z166.l1 R N n N a b (List.length (y3,()).1:Int) (0:Int))) else some ⟨o_Z166,((-1:Int),(0:Int),(0:Int),())⟩) := (hw _ _).trans (by kernel_rfl)
theorem Z166.ev (R:Run) (N:Nat) (a0:vS):evFn E R sg_Z166 pol_Z166 F_Z166 N [⟨(.ptr yS),a0⟩] = (Z166.l0 R N N a0 (0:Int)) := by kernel_rfl
theorem Z159.ev (R:Run) (N:Nat) (a0:vS):evFn E R sg_Z159 pol_Z159 F_Z159 N [⟨(.ptr yS),a0⟩] = ((callT R n_Z161 o_Z161 [⟨(.ptr yS),a0⟩]).bind fun r1 => (bif (!r1.1) then some ⟨o_Z159,(false,())⟩ else ((callT R n_Z166 o_Z166 [⟨(.ptr yS),a0⟩]).bind fun r2 => some ⟨o_Z159,((decide (r2.1 < (0:Int))),())⟩))) := by kernel_rfl
theorem Z146.ev (R:Run) (N:Nat) (a0:Int):evFn E R sg_Z146 pol_Z146 F_Z146 N [⟨yI,a0⟩] = ((callT R n_Z129 o_Z129 [⟨yI,a0⟩,⟨yI,(0:Int)⟩,⟨yI,(3:Int)⟩]).bind fun r1 => some ⟨o_Z146,(r1.1,())⟩) := by kernel_rfl
theorem Z167.ev (R:Run) (N:Nat) (a0:vS) (a1:Int):evFn E R sg_Z167 pol_Z167 F_Z167 N [⟨(.ptr yS),a0⟩,⟨yI,a1⟩] = ((callT R n_Z159 o_Z159 [⟨(.ptr yS),a0⟩]).bind fun r1 => (bif (!r1.1) then some ⟨o_Z167,((1:Int),())⟩ else ((callT R n_Z146 o_Z146 [⟨yI,a1⟩]).bind fun r2 => (bif (!r2.1) then some ⟨o_Z167,((2:Int),())⟩ else some ⟨o_Z167,((0:Int),())⟩)))) := by kernel_rfl
noncomputable def Z168.l0 (R:Run) (N n:Nat) (a:vS) (b e f:Int):Option Dv := R.w (some ⟨(.c (.ip yS a 0)::(.c (.d yI b)::(zd 3 (.c (.d yI e)::(.c (.d yI f)::(zd 34 [])))))),(zo 43 [])⟩) fun st => lC R pol_Z168 3 N [1,1,0,1,0,0] F_Z168 n st (kB R pol_Z168 0 (kS R pol_Z168 7 N [1,1,1] F_Z168 (kTop E sg_Z168 F_Z168)))
theorem Z168.l0_succ (R:Run) (hw:R.ok) (N n:Nat) (a:vS) (b c d:Int):Z168.l0 R N (n + 1) a b c d = (bif (decide (d < b)) then ((idx? a.1 d).bind fun y5 => ((idx? a.1 b).bind fun y6 => (bif ((List.length (y5,()).1:Int) == (List.length (y6,()).1:Int)) then ((idx? a.2.2.1 d).bind fun y7 => (Z168.l0 R N n a b (w64 (c + (y7,()).1)) (w64 (d + (1:Int))))) else (Z168.l0 R N n a b c (w64 (d + (1:Int))))))) else some ⟨o_Z168,(c,())⟩) := (hw _ _).trans (by kernel_rfl)
theorem Z168.ev (R:Run) (N:Nat) (a0:vS) (a1:Int):evFn E R sg_Z168 pol_Z168 F_Z168 N [⟨(.ptr yS),a0⟩,⟨yI,a1⟩] = (Z168.l0 R N N a0 a1 (0:Int) (0:Int)) := by kernel_rfl
theorem Z154.ev (R:Run) (N:Nat) (a0 a1:Int):evFn E R sg_Z154 pol_Z154 F_Z154 N [⟨yI,a0⟩,⟨yI,a1⟩] = (bif ((Int.tmod a0 (2:Int)) == (0:Int)) then ((chk (a1 != 0)).bind fun _ => some ⟨o_Z154,((Int.tmod (1:Int) a1),())⟩) else some ⟨o_Z154,((w64 (a1 - (1:Int))),())⟩) := by kernel_rfl
noncomputable def Z170.l5 (R:Run) (N a b e n:Nat) (f:vS) (g:Int) (h:(List Int)) (i:Int) (j:(List Int)) (k l:Int) (m:vM) (o p q r s t u v x y:Int) (z:(List Int)):Option Dv := R.w (some ⟨(.c (.ip yS f 0)::(.c (.d yI g)::(V.dead::(V.dead::(.c (.box 4 0)::(.c (.box 5 0)::(.c (.d yL h)::(.c (.d yI i)::(.c (.d yL j)::(.c (.d yI k)::(.c (.d yI l)::(.c (.ip yM m 0)::(.c (.d yI o)::(.c (.d yI p)::(.c (.d yI q)::(.c (.d yI r)::(zd 130 []))))))))))))))))),(zo 4 (some (.box [.d yI s,.d yI t,.d yI u,.nils yI] false false)::(some (.box [.d yI v,.d yI x,.d yI y,.arr 148] false false)::(zo 142 (some (.arr yI z true false false)::[])))))⟩) fun st => lC R pol_Z170 18 N [1,1,1,0,1,0,0,1,0,0,1,1,1,0,0,1,0,0,1,1,1,1,0,0,1,0,0,1,0,0] F_Z170 n st (kB R pol_Z170 6 (kB R pol_Z170 5 (kS R pol_Z170 16 N [1,1,1,0,1,0,0,1,0,0,1,1,1,0,0,1,0,0,1,1,1,1,0,0,1,1] F_Z170 (kL R pol_Z170 15 N [1,1,1,0,1,0,0,1,0,0,1,1,1,0,0,1,0,0,1,1,1,1,0,0] F_Z170 e (kB R pol_Z170 4 (kB R pol_Z170 3 (q0_6 R N (kL R pol_Z170 9 N [1,1,1,0,1,0,0,1,0,0,1,1,1,0,0] F_Z170 b (kB R pol_Z170 2 (kB R pol_Z170 1 (q0_7 R N (q0_11 R N a (q0_12 R (q0_8 R N (kTop E sg_Z170 F_Z170)))))))))))))))
noncomputable def Z170.l4 (R:Run) (N a b n:Nat) (e:vS) (f:Int) (g:(List Int)) (h:Int) (i:(List Int)) (j k:Int) (l:vM) (m o p q r s t u v:Int) (x:(List Int)):Option Dv := R.w (some ⟨(.c (.ip yS e 0)::(.c (.d yI f)::(V.dead::(V.dead::(.c (.box 4 0)::(.c (.box 5 0)::(.c (.d yL g)::(.c (.d yI h)::(.c (.d yL i)::(.c (.d yI j)::(.c (.d yI k)::(.c (.ip yM l 0)::(.c (.d yI m)::(.c (.d yI o)::(.c (.d yI p)::(zd 131 [])))))))))))))))),(zo 4 (some (.box [.d yI q,.d yI r,.d yI s,.nils yI] false false)::(some (.box [.d yI t,.d yI u,.d yI v,.arr 148] false false)::(zo 142 (some (.arr yI x true false false)::[])))))⟩) fun st => lC R pol_Z170 15 N [1,1,1,0,1,0,0,1,0,0,1,1,1,0,0,1,0,0,1,1,1,1,0,0] F_Z170 n st (kB R pol_Z170 4 (kB R pol_Z170 3 (q0_6 R N (kL R pol_Z170 9 N [1,1,1,0,1,0,0,1,0,0,1,1,1,0,0] F_Z170 b (kB R pol_Z170 2 (kB R pol_Z170 1 (q0_7 R N (q0_11 R N a (q0_12 R (q0_8 R N (kTop E sg_Z170 F_Z170)))))))))))
noncomputable def Z170.l3 (R:Run) (N a n:Nat) (b:vS) (e:Int) (f:(List Int)) (g:Int) (h:(List Int)) (i j k l m o p q:Int) (r:(List Int)):Option Dv := R.w (some ⟨(.c (.ip yS b 0)::(.c (.d yI e)::(V.dead::(V.dead::(.c (.box 4 0)::(.c (.box 5 0)::(.c (.d yL f)::(.c (.d yI g)::(.c (.d yL h)::(.c (.d yI i)::(.c (.d yI j)::(zd 135 [])))))))))))),(zo 4 (some (.box [.d yI k,.d yI l,.d yI m,.nils yI] false false)::(some (.box [.d yI o,.d yI p,.d yI q,.arr 148] false false)::(zo 142 (some (.arr yI r true false false)::[])))))⟩) fun st => lC R pol_Z170 9 N [1,1,1,0,1,0,0,1,0,0,1,1,1,0,0] F_Z170 n st (kB R pol_Z170 2 (kB R pol_Z170 1 (q0_7 R N (q0_11 R N a (q0_12 R (q0_8 R N (kTop E sg_Z170 F_Z170)))))))
noncomputable def Z170.j2 (R:Run) (N a:Nat) (b:vS) (e:Int) (f:(List Int)) (g:Int) (h:Bool) (i j k l m o:Int) (p:(List Int)):Option Dv := R.w (some ⟨(.c (.ip yS b 0)::(.c (.d yI e)::(V.dead::(V.dead::(.c (.box 4 0)::(.c (.box 5 0)::(.c (.d yL f)::(.c (.d yI g)::(zd 45 (.c (.d .bool h)::(zd 92 []))))))))))),(zo 4 (some (.box [.d yI i,.d yI j,.d yI k,.nils yI] false false)::(some (.box [.d yI l,.d yI m,.d yI o,.arr 148] false false)::(zo 142 (some (.arr yI p true false false)::[])))))⟩) fun st => eC R pol_Z170 N [1,1,1,0,1,0,0,0,1] F_Z170 st (kS R pol_Z170 6 N [1,1,1,0,1,0,0,1] F_Z170 (q0_11 R N a (q0_12 R (q0_8 R N (kTop E sg_Z170 F_Z170)))))
noncomputable def Z170.l1 (R:Run) (N n:Nat) (a:vS) (b:Int) (e:(List Int)) (f g h i j k l:Int) (m:(List Int)):Option Dv := R.w (some ⟨(.c (.ip yS a 0)::(.c (.d yI b)::(V.dead::(V.dead::(.c (.box 4 0)::(.c (.box 5 0)::(.c (.d yL e)::(.c (.d yI f)::(zd 138 []))))))))),(zo 4 (some (.box [.d yI g,.d yI h,.d yI i,.nils yI] false false)::(some (.box [.d yI j,.d yI k,.d yI l,.arr 148] false false)::(zo 142 (some (.arr yI m true false false)::[])))))⟩) fun st => lC R pol_Z170 4 N [1,1,1,0,1,0,0] F_Z170 n st (q0_12 R (q0_8 R N (kTop E sg_Z170 F_Z170)))
noncomputable def Z170.j0 (R:Run) (N:Nat) (a:vS) (b e f g h i j:Int) (k:(List Int)):Option Dv := R.w (some ⟨(.c (.ip yS a 0)::(.c (.d yI b)::(V.dead::(V.dead::(.c (.box 4 0)::(.c (.box 5 0)::(zd 140 []))))))),(zo 4 (some (.box [.d yI e,.d yI f,.d yI g,.nils yI] false false)::(some (.box [.d yI h,.d yI i,.d yI j,.arr 148] false false)::(zo 142 (some (.arr yI k true false false)::[])))))⟩) fun st => eC R pol_Z170 N [1,1] F_Z170 st (kTop E sg_Z170 F_Z170)
theorem Z170.l5_succ (R:Run) (hw:R.ok) (N a b c n:Nat) (d:vS) (e:Int) (f:(List Int)) (g:Int) (h:(List Int)) (i j:Int) (k:vM) (l m o p q r s t u v:Int) (w:(List Int)):Z170.l5 R N a b c (n + 1) d e f g h i j k l m o p q r s t u v w = (bif (decide (p < k.2.2.1)) then ((idx? k.2.2.2.1 (w64 ((w64 (o * k.2.2.1)) + p))).bind fun y97 => ((chk (d.2.1 != 0)).bind fun _ => ((chk (decide (0 ≤ (w64 ((w64 ((w64 ((w64 (i + o)) * v)) + l)) + p))) && decide ((w64 ((w64 ((w64 ((w64 (i + o)) * v)) + l)) + p)) < (List.length w:Int)))).bind fun _ => (Z170.l5 R N a b c n d e f g h i j k l m o (w64 (p + (1:Int))) q r s t u v (List.set w (Int.toNat (w64 ((w64 ((w64 ((w64 (i + o)) * v)) + l)) + p))) (Int.tmod (w64 ((y97,()).1 * m)) d.2.1)))))) else (Z170.l4 R N a b c d e f g h i j k l m (w64 (o + (1:Int))) q r s t u v w)) := (hw _ _).trans (by kernel_rfl)
theorem Z170.l4_succ (R:Run) (hw:R.ok) (N a b n:Nat) (c:vS) (d:Int) (e:(List Int)) (f:Int) (g:(List Int)) (h i:Int) (j:vM) (k l m o p q r s t:Int) (u:(List Int)):Z170.l4 R N a b (n + 1) c d e f g h i j k l m o p q r s t u = (bif (decide (m < j.2.1)) then (Z170.l5 R N a b n N c d e f g h i j k l m (0:Int) o p q r s t u) else (Z170.l3 R N a b c d e f g h (w64 (i + (1:Int))) o p q r s t u)) := (hw _ _).trans (by kernel_rfl)
theorem Z170.l3_succ (R:Run) (hw:R.ok) (N a n:Nat) (b:vS) (c:Int) (d:(List Int)) (e:Int) (f:(List Int)) (g h i j k l m o:Int) (p:(List Int)):Z170.l3 R N a (n + 1) b c d e f g h i j k l m o p = (bif (decide (h < (List.length f:Int))) then ((idx? d e).bind fun y55 => ((callT R n_Z158 o_Z158 [⟨(.ptr yS),b⟩,⟨yI,(y55,()).1⟩,⟨yI,h⟩]).bind fun r56 => ((idx? f h).bind fun y57 => ((callT R n_Z168 o_Z168 [⟨(.ptr yS),b⟩,⟨yI,(y57,()).1⟩]).bind fun r58 => ((callT R n_Z154 o_Z154 [⟨yI,h⟩,⟨yI,b.2.1⟩]).bind fun r59 => (Z170.l4 R N a n N b c d e f g h r56.1 r58.1 r59.1 (0:Int) i j k l m o p)))))) else (Z170.l1 R N a b c d (w64 (e + (1:Int))) i j k l m o p)) := (hw _ _).trans (by kernel_rfl)
theorem Z170.j2_eq (R:Run) (hw:R.ok) (N a:Nat) (b:vS) (c:Int) (d:(List Int)) (e:Int) (f:Bool) (g h i j k l:Int) (m:(List Int)):Z170.j2 R N a b c d e f g h i j k l m = (bif f then ((idx? d e).bind fun y37 => ((callT R n_Z148 o_Z148 [⟨(.ptr (.cons yK .nil)),(b.1,())⟩,⟨yI,(y37,()).1⟩]).bind fun r38 => ((idx? d e).bind fun y39 => ((callT R n_Z168 o_Z168 [⟨(.ptr yS),b⟩,⟨yI,(y39,()).1⟩]).bind fun r40 => (Z170.l3 R N a N b c d e r38.1 r40.1 (0:Int) g h i j k l m))))) else some ⟨o_Z170,(j,k,l,m,())⟩) := (hw _ _).trans (by kernel_rfl)
theorem Z170.l1_succ (R:Run) (hw:R.ok) (N n:Nat) (a:vS) (b:Int) (c:(List Int)) (d e f g h i j:Int) (k:(List Int)):Z170.l1 R N (n + 1) a b c d e f g h i j k = (bif (decide (d < (List.length c:Int))) then (Z170.j2 R N n a b c d (decide (b ≥ (0:Int))) e f g h i j k) else (Z170.j2 R N n a b c d false e f g h i j k)) := (hw _ _).trans (by kernel_rfl)
theorem Z170.j0_eq (R:Run) (hw:R.ok) (N:Nat) (a:vS) (b c d e f g h:Int) (i:(List Int)):Z170.j0 R N a b c d e f g h i = ((callT R n_Z150 o_Z150 [⟨(.ptr (.cons yK .nil)),(a.1,())⟩,⟨yI,(w64 (b + (1:Int)))⟩]).bind fun r13 => (Z170.l1 R N N a b r13.1 (0:Int) c d e f g h i)) := (hw _ _).trans (by kernel_rfl)
theorem Z170.ev (R:Run) (N:Nat) (a0:vS) (a1:Int):evFn E R sg_Z170 pol_Z170 F_Z170 N [⟨(.ptr yS),a0⟩,⟨yI,a1⟩] = (both ((callT R n_Z164 o_Z164 [⟨(.ptr (.cons yK .nil)),(a0.1,())⟩,⟨yL,a0.2.2.1⟩,⟨yI,(w64 (a1 + (1:Int)))⟩]).bind fun r1 => (both ((callT R n_Z164 o_Z164 [⟨(.ptr (.cons yK .nil)),(a0.1,())⟩,⟨yL,a0.2.2.1⟩,⟨yI,a1⟩]).bind fun r2 => (both ((callT R n_Z144 o_Z144 [⟨yI,a0.2.1⟩,⟨yI,r1.1⟩,⟨yI,r2.1⟩]).bind fun r3 => (Z170.j0 R N a0 a1 (0:Int) (0:Int) (0:Int) r3.1 r3.2.1 r3.2.2.1 r3.2.2.2.1)) ((callT R n_Z144 o_Z144 [⟨yI,a0.2.1⟩,⟨yI,r1.1⟩,⟨yI,r2.1⟩]).bind fun r172 => (Z170.j0 R N a0 a1 (0:Int) (0:Int) (0:Int) r172.1 r172.2.1 r172.2.2.1 r172.2.2.2.1)))) ((callT R n_Z164 o_Z164 [⟨(.ptr (.cons yK .nil)),(a0.1,())⟩,⟨yL,a0.2.2.1⟩,⟨yI,a1⟩]).bind fun r182 => ((callT R n_Z144 o_Z144 [⟨yI,a0.2.1⟩,⟨yI,r1.1⟩,⟨yI,r182.1⟩]).bind fun r183 => (Z170.j0 R N a0 a1 (0:Int) (0:Int) (0:Int) r183.1 r183.2.1 r183.2.2.1 r183.2.2.2.1))))) ((callT R n_Z164 o_Z164 [⟨(.ptr (.cons yK .nil)),(a0.1,())⟩,⟨yL,a0.2.2.1⟩,⟨yI,(w64 (a1 + (1:Int)))⟩]).bind fun r193 => ((callT R n_Z164 o_Z164 [⟨(.ptr (.cons yK .nil)),(a0.1,())⟩,⟨yL,a0.2.2.1⟩,⟨yI,a1⟩]).bind fun r194 => ((callT R n_Z144 o_Z144 [⟨yI,a0.2.1⟩,⟨yI,r193.1⟩,⟨yI,r194.1⟩]).bind fun r195 => (Z170.j0 R N a0 a1 (0:Int) (0:Int) (0:Int) r195.1 r195.2.1 r195.2.2.1 r195.2.2.2.1))))) := by kernel_rfl
noncomputable def Z135.l0 (R:Run) (N n:Nat) (a b e f:Int):Option Dv := R.w (some ⟨(.c (.d yI a)::(.c (.d yI b)::(zd 3 (.c (.d yI e)::(.c (.d yI f)::(zd 12 [])))))),(zo 21 [])⟩) fun st => lC R pol_Z135 3 N [1,1,0,1,0,0] F_Z135 n st (kB R pol_Z135 0 (kS R pol_Z135 6 N [1,1,1] F_Z135 (kTop E sg_Z135 F_Z135)))
theorem Z135.l0_succ (R:Run) (hw:R.ok) (N n:Nat) (a b c d:Int):Z135.l0 R N (n + 1) a b c d = (bif (decide (d > (0:Int))) then ((chk (b != 0)).bind fun _ => (Z135.l0 R N n a b (Int.tmod (w64 (c * a)) b) (w64 (d - (1:Int))))) else some ⟨o_Z135,(c,())⟩) := (hw _ _).trans (by kernel_rfl)
theorem Z135.ev (R:Run) (N:Nat) (a0 a1:Int):evFn E R sg_Z135 pol_Z135 F_Z135 N [⟨yI,a0⟩,⟨yI,a1⟩] = (Z135.l0 R N N a0 a1 (1:Int) (w64 (a1 - (2:Int)))) := by kernel_rfl
theorem Z138.ev (R:Run) (N:Nat) (a0 a1:Int):evFn E R sg_Z138 pol_Z138 F_Z138 N [⟨yI,a0⟩,⟨yI,a1⟩] = ((chk (a1 != 0)).bind fun _ => ((chk (a1 != 0)).bind fun _ => some ⟨o_Z138,((Int.tmod (w64 ((Int.tmod a0 a1) + a1)) a1),())⟩)) := by kernel_rfl
end VeT
