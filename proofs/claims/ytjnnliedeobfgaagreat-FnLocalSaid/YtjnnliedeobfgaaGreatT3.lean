import Derived.Test.YtjnnliedeobfgaaGreatV2
import Derived.Test.YtjnnliedeobfgaaGreatProg
import Derived.KernelRfl
set_option linter.unusedVariables false
set_option linter.unusedSimpArgs false
open Go Go.Proofs Ve
set_option maxRecDepth 100000
namespace VeT
abbrev yM : Ty := .cons (.int .i64) (.cons (.int .i64) (.cons (.int .i64) (.cons (.sl (.int .i64)) .nil)))
abbrev yI : Ty := .int .i64
abbrev yL : Ty := .sl yI
abbrev yK : Ty := .sl yL
abbrev yN : Ty := .sl (.st yM)
abbrev yS : Ty := .cons yK (.cons yI (.cons yL (.cons yN .nil)))
abbrev vM := Int × Int × Int × List Int × Unit
abbrev vK := List (List Int)
abbrev vN := List vM
abbrev vS := vK × Int × List Int × vN × Unit
noncomputable section
def bodyOf (f:Func):Code := f.body.getD .skip
def zd:Nat → List Ve.V → List Ve.V
  | 0,t => t
  | n + 1,t => V.dead::zd n t
def zo:Nat → List (Option Ve.Obj) → List (Option Ve.Obj)
  | 0,t => t
  | n + 1,t => none::zo n t
abbrev n_Z67:Nat := 7
abbrev n_Z68:Nat := 24
abbrev n_Z5:Nat := 41
abbrev n_Z95:Nat := 43
abbrev n_Z6:Nat := 44
abbrev n_Z98:Nat := 45
abbrev n_Z69:Nat := 46
abbrev n_Z96:Nat := 47
abbrev n_Z100:Nat := 78
abbrev n_Z145:Nat := 79
abbrev n_Z151:Nat := 82
abbrev n_Z155:Nat := 84
abbrev n_Z110:Nat := 85
abbrev n_Z113:Nat := 92
abbrev n_Z17:Nat := 96
abbrev n_Z58:Nat := 103
abbrev n_Z10:Nat := 108
abbrev n_Z60:Nat := 111
abbrev n_Z46:Nat := 112
abbrev n_Z13:Nat := 113
abbrev n_Z65:Nat := 114
abbrev n_Z21:Nat := 115
abbrev n_Z63:Nat := 119
abbrev n_Z135:Nat := 120
abbrev n_Z99:Nat := 121
abbrev n_Z134:Nat := 125
abbrev n_Z57:Nat := 128
abbrev n_Z77:Nat := 129
abbrev n_Z37:Nat := 132
abbrev n_Z94:Nat := 133
abbrev n_Z14:Nat := 134
abbrev n_Z66:Nat := 135
abbrev n_Z140:Nat := 138
abbrev n_Z163:Nat := 139
abbrev n_Z49:Nat := 140
abbrev n_Z48:Nat := 141
abbrev n_Z41:Nat := 142
abbrev n_Z56:Nat := 143
abbrev n_Z54:Nat := 144
abbrev n_Z47:Nat := 145
abbrev n_Z159:Nat := 146
abbrev n_Z161:Nat := 147
abbrev n_Z148:Nat := 148
abbrev n_Z164:Nat := 149
abbrev n_Z158:Nat := 150
abbrev n_Z160:Nat := 151
abbrev n_Z83:Nat := 155
abbrev n_Z138:Nat := 156
abbrev n_Z133:Nat := 157
abbrev n_Z124:Nat := 160
abbrev n_Z123:Nat := 161
abbrev n_Z74:Nat := 175
abbrev n_Z166:Nat := 176
abbrev n_Z107:Nat := 179
abbrev n_Z59:Nat := 181
abbrev n_Z144:Nat := 186
abbrev n_Z142:Nat := 187
abbrev n_Z141:Nat := 188
abbrev n_Z150:Nat := 189
abbrev n_Z139:Nat := 190
abbrev n_Z115:Nat := 191
abbrev n_Z154:Nat := 193
abbrev n_Z143:Nat := 194
abbrev n_Z149:Nat := 195
abbrev n_Z152:Nat := 196
abbrev n_Z102:Nat := 197
abbrev n_Z108:Nat := 198
abbrev n_Z61:Nat := 201
abbrev n_Z24:Nat := 203
abbrev n_Z114:Nat := 205
abbrev n_Z126:Nat := 206
abbrev n_Z132:Nat := 207
abbrev n_Z146:Nat := 209
abbrev n_Z27:Nat := 211
abbrev n_Z8:Nat := 212
abbrev n_Z30:Nat := 213
abbrev n_Z26:Nat := 214
abbrev n_Z7:Nat := 216
abbrev n_Z109:Nat := 218
abbrev n_Z103:Nat := 222
abbrev n_Z118:Nat := 228
abbrev n_Z15:Nat := 229
abbrev n_Z25:Nat := 230
abbrev n_Z75:Nat := 231
abbrev n_Z31:Nat := 232
abbrev n_Z11:Nat := 233
abbrev n_Z28:Nat := 237
abbrev n_Z82:Nat := 238
abbrev n_Z53:Nat := 239
abbrev n_Z22:Nat := 240
abbrev n_Z72:Nat := 241
abbrev n_Z23:Nat := 242
abbrev n_Z32:Nat := 244
abbrev n_Z64:Nat := 245
abbrev n_Z128:Nat := 246
abbrev n_Z131:Nat := 247
abbrev n_Z112:Nat := 248
abbrev n_Z121:Nat := 249
abbrev n_Z129:Nat := 250
abbrev n_Z130:Nat := 251
abbrev n_Z88:Nat := 253
abbrev n_Z70:Nat := 254
abbrev n_Z39:Nat := 255
abbrev n_Z51:Nat := 256
abbrev n_Z9:Nat := 257
abbrev n_Z20:Nat := 259
abbrev n_Z42:Nat := 260
abbrev n_Z55:Nat := 261
abbrev n_Z162:Nat := 262
abbrev n_Z136:Nat := 263
abbrev n_Z165:Nat := 264
abbrev n_Z153:Nat := 265
abbrev n_Z106:Nat := 266
abbrev n_Z157:Nat := 267
abbrev n_Z127:Nat := 268
abbrev n_Z167:Nat := 269
abbrev n_Z168:Nat := 270
abbrev n_Z169:Nat := 271
abbrev n_Z105:Nat := 274
abbrev n_Z120:Nat := 275
abbrev n_Z111:Nat := 280
abbrev n_Z84:Nat := 285
abbrev n_Z125:Nat := 287
abbrev n_Z147:Nat := 288
abbrev n_Z97:Nat := 289
abbrev n_Z18:Nat := 290
abbrev n_Z62:Nat := 292
abbrev n_Z36:Nat := 293
abbrev n_Z122:Nat := 298
abbrev n_Z101:Nat := 299
abbrev n_Z119:Nat := 300
abbrev n_Z43:Nat := 301
abbrev n_Z16:Nat := 302
abbrev n_Z45:Nat := 303
abbrev n_Z2:Nat := 304
abbrev n_Z0:Nat := 305
abbrev n_Z73:Nat := 306
abbrev n_Z85:Nat := 307
abbrev n_Z29:Nat := 310
abbrev n_Z38:Nat := 311
abbrev n_Z137:Nat := 312
abbrev n_Z104:Nat := 313
abbrev n_Z12:Nat := 314
abbrev n_Z52:Nat := 315
abbrev n_Z156:Nat := 316
abbrev n_Z117:Nat := 320
abbrev n_Z19:Nat := 321
abbrev n_Z40:Nat := 322
abbrev n_Z116:Nat := 326
abbrev n_Z3:Nat := 327
abbrev n_Z1:Nat := 328
abbrev n_Z50:Nat := 340
abbrev n_Z44:Nat := 341
abbrev n_Z4:Nat := 351
abbrev F_Z67:Func := Tryz.f7
abbrev F_Z68:Func := Tryz.f24
abbrev F_Z5:Func := Tryz.f41
abbrev F_Z95:Func := Tryz.f43
abbrev F_Z6:Func := Tryz.f44
abbrev F_Z98:Func := Tryz.f45
abbrev F_Z69:Func := Tryz.f46
abbrev F_Z96:Func := Tryz.f47
abbrev F_Z100:Func := Tryz.f78
abbrev F_Z145:Func := Tryz.f79
abbrev F_Z151:Func := Tryz.f82
abbrev F_Z155:Func := Tryz.f84
abbrev F_Z110:Func := Tryz.f85
abbrev F_Z113:Func := Tryz.f92
abbrev F_Z17:Func := Tryz.f96
abbrev F_Z58:Func := Tryz.f103
abbrev F_Z10:Func := Tryz.f108
abbrev F_Z60:Func := Tryz.f111
abbrev F_Z46:Func := Tryz.f112
abbrev F_Z13:Func := Tryz.f113
abbrev F_Z65:Func := Tryz.f114
abbrev F_Z21:Func := Tryz.f115
abbrev F_Z63:Func := Tryz.f119
abbrev F_Z135:Func := Tryz.f120
abbrev F_Z99:Func := Tryz.f121
abbrev F_Z134:Func := Tryz.f125
abbrev F_Z57:Func := Tryz.f128
abbrev F_Z77:Func := Tryz.f129
abbrev F_Z37:Func := Tryz.f132
abbrev F_Z94:Func := Tryz.f133
abbrev F_Z14:Func := Tryz.f134
abbrev F_Z66:Func := Tryz.f135
abbrev F_Z140:Func := Tryz.f138
abbrev F_Z163:Func := Tryz.f139
abbrev F_Z49:Func := Tryz.f140
abbrev F_Z48:Func := Tryz.f141
abbrev F_Z41:Func := Tryz.f142
abbrev F_Z56:Func := Tryz.f143
abbrev F_Z54:Func := Tryz.f144
abbrev F_Z47:Func := Tryz.f145
abbrev F_Z159:Func := Tryz.f146
abbrev F_Z161:Func := Tryz.f147
abbrev F_Z148:Func := Tryz.f148
abbrev F_Z164:Func := Tryz.f149
abbrev F_Z158:Func := Tryz.f150
abbrev F_Z160:Func := Tryz.f151
abbrev F_Z83:Func := Tryz.f155
abbrev F_Z138:Func := Tryz.f156
abbrev F_Z133:Func := Tryz.f157
abbrev F_Z124:Func := Tryz.f160
abbrev F_Z123:Func := Tryz.f161
abbrev F_Z74:Func := Tryz.f175
abbrev F_Z166:Func := Tryz.f176
abbrev F_Z107:Func := Tryz.f179
abbrev F_Z59:Func := Tryz.f181
abbrev F_Z144:Func := Tryz.f186
abbrev F_Z142:Func := Tryz.f187
abbrev F_Z141:Func := Tryz.f188
abbrev F_Z150:Func := Tryz.f189
abbrev F_Z139:Func := Tryz.f190
abbrev F_Z115:Func := Tryz.f191
abbrev F_Z154:Func := Tryz.f193
abbrev F_Z143:Func := Tryz.f194
abbrev F_Z149:Func := Tryz.f195
abbrev F_Z152:Func := Tryz.f196
abbrev F_Z102:Func := Tryz.f197
abbrev F_Z108:Func := Tryz.f198
abbrev F_Z61:Func := Tryz.f201
abbrev F_Z24:Func := Tryz.f203
abbrev F_Z114:Func := Tryz.f205
abbrev F_Z126:Func := Tryz.f206
abbrev F_Z132:Func := Tryz.f207
abbrev F_Z146:Func := Tryz.f209
abbrev F_Z27:Func := Tryz.f211
abbrev F_Z8:Func := Tryz.f212
abbrev F_Z30:Func := Tryz.f213
abbrev F_Z26:Func := Tryz.f214
abbrev F_Z7:Func := Tryz.f216
abbrev F_Z109:Func := Tryz.f218
abbrev F_Z103:Func := Tryz.f222
abbrev F_Z118:Func := Tryz.f228
abbrev F_Z15:Func := Tryz.f229
abbrev F_Z25:Func := Tryz.f230
abbrev F_Z75:Func := Tryz.f231
abbrev F_Z31:Func := Tryz.f232
abbrev F_Z11:Func := Tryz.f233
abbrev F_Z28:Func := Tryz.f237
abbrev F_Z82:Func := Tryz.f238
abbrev F_Z53:Func := Tryz.f239
abbrev F_Z22:Func := Tryz.f240
abbrev F_Z72:Func := Tryz.f241
abbrev F_Z23:Func := Tryz.f242
abbrev F_Z32:Func := Tryz.f244
abbrev F_Z64:Func := Tryz.f245
abbrev F_Z128:Func := Tryz.f246
abbrev F_Z131:Func := Tryz.f247
abbrev F_Z112:Func := Tryz.f248
abbrev F_Z121:Func := Tryz.f249
abbrev F_Z129:Func := Tryz.f250
abbrev F_Z130:Func := Tryz.f251
abbrev F_Z88:Func := Tryz.f253
abbrev F_Z70:Func := Tryz.f254
abbrev F_Z39:Func := Tryz.f255
abbrev F_Z51:Func := Tryz.f256
abbrev F_Z9:Func := Tryz.f257
abbrev F_Z20:Func := Tryz.f259
abbrev F_Z42:Func := Tryz.f260
abbrev F_Z55:Func := Tryz.f261
abbrev F_Z162:Func := Tryz.f262
abbrev F_Z136:Func := Tryz.f263
abbrev F_Z165:Func := Tryz.f264
abbrev F_Z153:Func := Tryz.f265
abbrev F_Z106:Func := Tryz.f266
abbrev F_Z157:Func := Tryz.f267
abbrev F_Z127:Func := Tryz.f268
abbrev F_Z167:Func := Tryz.f269
abbrev F_Z168:Func := Tryz.f270
abbrev F_Z169:Func := Tryz.f271
abbrev F_Z105:Func := Tryz.f274
abbrev F_Z120:Func := Tryz.f275
abbrev F_Z111:Func := Tryz.f280
abbrev F_Z84:Func := Tryz.f285
abbrev F_Z125:Func := Tryz.f287
abbrev F_Z147:Func := Tryz.f288
abbrev F_Z97:Func := Tryz.f289
abbrev F_Z18:Func := Tryz.f290
abbrev F_Z62:Func := Tryz.f292
abbrev F_Z36:Func := Tryz.f293
abbrev F_Z122:Func := Tryz.f298
abbrev F_Z101:Func := Tryz.f299
abbrev F_Z119:Func := Tryz.f300
abbrev F_Z43:Func := Tryz.f301
abbrev F_Z16:Func := Tryz.f302
abbrev F_Z45:Func := Tryz.f303
abbrev F_Z2:Func := Tryz.f304
abbrev F_Z0:Func := Tryz.f305
abbrev F_Z73:Func := Tryz.f306
abbrev F_Z85:Func := Tryz.f307
abbrev F_Z29:Func := Tryz.f310
abbrev F_Z38:Func := Tryz.f311
abbrev F_Z137:Func := Tryz.f312
abbrev F_Z104:Func := Tryz.f313
abbrev F_Z12:Func := Tryz.f314
abbrev F_Z52:Func := Tryz.f315
abbrev F_Z156:Func := Tryz.f316
abbrev F_Z117:Func := Tryz.f320
abbrev F_Z19:Func := Tryz.f321
abbrev F_Z40:Func := Tryz.f322
abbrev F_Z116:Func := Tryz.f326
abbrev F_Z3:Func := Tryz.f327
abbrev F_Z1:Func := Tryz.f328
abbrev F_Z50:Func := Tryz.f340
abbrev F_Z44:Func := Tryz.f341
abbrev F_Z4:Func := Tryz.f351
abbrev o_Z67:Ty := (.cons .bool .nil)
def sg_Z67:Sig := ⟨[(false,1)],[],o_Z67,[(false,1)],[],[]⟩
abbrev o_Z68:Ty := (.cons .bool .nil)
def sg_Z68:Sig := ⟨[(false,1)],[],o_Z68,[(false,1)],[],[]⟩
abbrev o_Z5:Ty := (.cons .bool .nil)
def sg_Z5:Sig := ⟨[(true,4)],[],o_Z5,[(false,1)],[],[]⟩
abbrev o_Z95:Ty := (.cons yK (.cons yI (.cons yL (.cons yN (.cons yL .nil)))))
def sg_Z95:Sig := ⟨[(false,1)],[],o_Z95,[(true,4),(false,1)],[.imm,.imm,.imm,.imm,.deep],[]⟩
abbrev o_Z6:Ty := (.cons yK (.cons yI .nil))
def sg_Z6:Sig := ⟨[(true,4),(false,1)],[],o_Z6,[(false,1),(false,1)],[.deep,.imm],[]⟩
abbrev o_Z98:Ty := (.cons .bool .nil)
def sg_Z98:Sig := ⟨[(true,4),(false,1),(false,1)],[],o_Z98,[(false,1)],[],[]⟩
abbrev o_Z69:Ty := (.cons .bool .nil)
def sg_Z69:Sig := ⟨[(false,1)],[],o_Z69,[(false,1)],[],[]⟩
abbrev o_Z96:Ty := (.cons yK (.cons yI .nil))
def sg_Z96:Sig := ⟨[(true,4)],[],o_Z96,[(false,1),(false,1)],[.deep,.imm],[]⟩
abbrev o_Z100:Ty := (.cons (.ptr (.cons (.sl (.int .u8)) (.cons yI (.cons (.int .u64) .nil)))) .nil)
def sg_Z100:Sig := ⟨[(false,1)],[],o_Z100,[(false,1)],[.bx],[]⟩
abbrev o_Z145:Ty := (.cons yK (.cons yI (.cons yL (.cons yN (.cons (.ptr (.cons (.sl (.int .u8)) (.cons yI (.cons (.int .u64) .nil)))) .nil)))))
def sg_Z145:Sig := ⟨[(false,1)],[.iob],o_Z145,[(true,4)],[.deep,.imm,.deep,.own],[(.ptr (.cons (.sl (.int .u8)) (.cons yI (.cons (.int .u64) .nil))))]⟩
abbrev o_Z151:Ty := (.cons .bool .nil)
def sg_Z151:Sig := ⟨[(false,1)],[],o_Z151,[(false,1)],[],[(.ptr yS)]⟩
abbrev o_Z155:Ty := (.cons yI .nil)
def sg_Z155:Sig := ⟨[(false,1),(false,1),(false,1)],[],o_Z155,[(false,1)],[],[(.ptr (.cons yK .nil))]⟩
abbrev o_Z110:Ty := (.cons yI (.cons (.ptr (.cons (.sl (.int .u8)) (.cons yI (.cons (.int .u64) .nil)))) .nil))
def sg_Z110:Sig := ⟨[(false,1),(false,1)],[.iob,.imm],o_Z110,[(false,1)],[],[(.ptr (.cons (.sl (.int .u8)) (.cons yI (.cons (.int .u64) .nil))))]⟩
abbrev o_Z113:Ty := (.cons yL .nil)
def sg_Z113:Sig := ⟨[(false,1),(false,1)],[],o_Z113,[(false,1)],[.deep],[(.ptr yM)]⟩
abbrev o_Z17:Ty := (.cons yL .nil)
def sg_Z17:Sig := ⟨[(false,1),(false,1),(false,1),(false,1)],[],o_Z17,[(false,1)],[.deep],[]⟩
abbrev o_Z58:Ty := (.cons yI .nil)
def sg_Z58:Sig := ⟨[(false,1)],[],o_Z58,[(false,1)],[],[]⟩
abbrev o_Z10:Ty := (.cons .bool .nil)
def sg_Z10:Sig := ⟨[(true,1)],[],o_Z10,[(false,1)],[],[]⟩
abbrev o_Z60:Ty := (.cons yI .nil)
def sg_Z60:Sig := ⟨[(true,4),(false,1)],[],o_Z60,[(false,1)],[],[]⟩
abbrev o_Z46:Ty := (.cons yK .nil)
def sg_Z46:Sig := ⟨[(true,4)],[],o_Z46,[(false,1)],[.deep],[]⟩
abbrev o_Z13:Ty := (.cons .bool .nil)
def sg_Z13:Sig := ⟨[(false,1)],[],o_Z13,[(false,1)],[],[]⟩
abbrev o_Z65:Ty := (.cons .bool .nil)
def sg_Z65:Sig := ⟨[(false,1),(false,1),(false,1)],[],o_Z65,[(false,1)],[],[]⟩
abbrev o_Z21:Ty := (.cons .bool .nil)
def sg_Z21:Sig := ⟨[(true,1),(false,1)],[],o_Z21,[(false,1)],[],[]⟩
abbrev o_Z63:Ty := yM
def sg_Z63:Sig := ⟨[(false,1),(false,1)],[],o_Z63,[(true,4)],[.imm,.imm,.imm,.deep],[]⟩
abbrev o_Z135:Ty := (.cons .bool .nil)
def sg_Z135:Sig := ⟨[(false,1)],[],o_Z135,[(false,1)],[],[(.ptr (.cons yK .nil))]⟩
abbrev o_Z99:Ty := (.cons .bool .nil)
def sg_Z99:Sig := ⟨[(false,1)],[],o_Z99,[(false,1)],[],[]⟩
abbrev o_Z134:Ty := (.cons yL .nil)
def sg_Z134:Sig := ⟨[(false,1),(false,1)],[],o_Z134,[(false,1)],[.deep],[(.ptr (.cons yK .nil))]⟩
abbrev o_Z57:Ty := (.cons yL .nil)
def sg_Z57:Sig := ⟨[(true,1),(false,1)],[],o_Z57,[(false,1)],[.deep],[]⟩
abbrev o_Z77:Ty := (.cons .bool .nil)
def sg_Z77:Sig := ⟨[(false,1),(false,1)],[],o_Z77,[(false,1)],[],[]⟩
abbrev o_Z37:Ty := (.cons yI .nil)
def sg_Z37:Sig := ⟨[(true,1),(false,1)],[],o_Z37,[(false,1)],[],[]⟩
abbrev o_Z94:Ty := (.cons yI .nil)
def sg_Z94:Sig := ⟨[(false,1),(false,1)],[],o_Z94,[(false,1)],[],[]⟩
abbrev o_Z14:Ty := (.cons .bool .nil)
def sg_Z14:Sig := ⟨[(true,4)],[],o_Z14,[(false,1)],[],[]⟩
abbrev o_Z66:Ty := (.cons yI (.cons yI (.cons .bool .nil)))
def sg_Z66:Sig := ⟨[(true,4)],[],o_Z66,[(false,1),(false,1),(false,1)],[],[]⟩
abbrev o_Z140:Ty := (.cons yK (.cons yI (.cons yL (.cons yN (.cons (.ptr (.cons (.sl (.int .u8)) (.cons yI (.cons (.int .u64) .nil)))) .nil)))))
def sg_Z140:Sig := ⟨[(false,1)],[.iob],o_Z140,[(true,4)],[],[(.ptr (.cons (.sl (.int .u8)) (.cons yI (.cons (.int .u64) .nil))))]⟩
abbrev o_Z163:Ty := (.cons yL (.cons (.ptr (.cons (.sl (.int .u8)) (.cons yI (.cons (.int .u64) .nil)))) .nil))
def sg_Z163:Sig := ⟨[(false,1),(false,1)],[.iob,.imm],o_Z163,[(false,1)],[.deep],[(.ptr (.cons (.sl (.int .u8)) (.cons yI (.cons (.int .u64) .nil)))),(.ptr yS)]⟩
abbrev o_Z49:Ty := (.cons yI .nil)
def sg_Z49:Sig := ⟨[(true,4),(false,1)],[],o_Z49,[(false,1)],[],[]⟩
abbrev o_Z48:Ty := (.cons yL (.cons yI .nil))
def sg_Z48:Sig := ⟨[(true,4),(false,1)],[],o_Z48,[(false,1),(false,1)],[.deep,.imm],[]⟩
abbrev o_Z41:Ty := (.cons .bool .nil)
def sg_Z41:Sig := ⟨[(false,1),(false,1)],[],o_Z41,[(false,1)],[],[]⟩
abbrev o_Z56:Ty := (.cons yK .nil)
def sg_Z56:Sig := ⟨[(true,4)],[],o_Z56,[(false,1)],[.deep],[]⟩
abbrev o_Z54:Ty := yM
def sg_Z54:Sig := ⟨[(true,4),(false,1),(false,1)],[],o_Z54,[(true,4)],[.imm,.imm,.imm,.deep],[]⟩
abbrev o_Z47:Ty := yM
def sg_Z47:Sig := ⟨[(false,1),(false,1),(false,1)],[],o_Z47,[(true,4)],[.imm,.imm,.imm,.deep],[]⟩
abbrev o_Z159:Ty := (.cons yI .nil)
def sg_Z159:Sig := ⟨[(false,1),(false,1),(false,1)],[],o_Z159,[(false,1)],[],[(.ptr yS)]⟩
abbrev o_Z161:Ty := (.cons yI (.cons yI .nil))
def sg_Z161:Sig := ⟨[(false,1),(false,1),(false,1)],[],o_Z161,[(false,1),(false,1)],[],[(.ptr yS)]⟩
abbrev o_Z148:Ty := (.cons .bool .nil)
def sg_Z148:Sig := ⟨[(false,1)],[],o_Z148,[(false,1)],[],[(.ptr yS)]⟩
abbrev o_Z164:Ty := (.cons yK .nil)
def sg_Z164:Sig := ⟨[(false,1),(false,1),(false,1)],[],o_Z164,[(false,1)],[.deep],[]⟩
abbrev o_Z158:Ty := (.cons yI .nil)
def sg_Z158:Sig := ⟨[(false,1)],[],o_Z158,[(false,1)],[],[(.ptr yS)]⟩
abbrev o_Z160:Ty := (.cons yK .nil)
def sg_Z160:Sig := ⟨[(false,1)],[],o_Z160,[(false,1)],[.deep],[(.ptr yS)]⟩
abbrev o_Z83:Ty := (.cons .bool .nil)
def sg_Z83:Sig := ⟨[(false,1),(false,1)],[],o_Z83,[(false,1)],[],[]⟩
abbrev o_Z138:Ty := (.cons .bool .nil)
def sg_Z138:Sig := ⟨[(false,1)],[],o_Z138,[(false,1)],[],[]⟩
abbrev o_Z133:Ty := (.cons yI .nil)
def sg_Z133:Sig := ⟨[(false,1),(false,1)],[],o_Z133,[(false,1)],[],[(.ptr (.cons yK .nil))]⟩
abbrev o_Z124:Ty := yM
def sg_Z124:Sig := ⟨[(false,1),(false,1)],[],o_Z124,[(true,4)],[.imm,.imm,.imm,.deep],[(.ptr yM),(.ptr yM)]⟩
abbrev o_Z123:Ty := (.cons .bool .nil)
def sg_Z123:Sig := ⟨[(false,1),(false,1)],[],o_Z123,[(false,1)],[],[(.ptr yM),(.ptr yM)]⟩
abbrev o_Z74:Ty := (.cons yL .nil)
def sg_Z74:Sig := ⟨[(false,1)],[],o_Z74,[(false,1)],[.deep],[]⟩
abbrev o_Z166:Ty := (.cons .bool .nil)
def sg_Z166:Sig := ⟨[(false,1),(false,1)],[],o_Z166,[(false,1)],[],[(.ptr yS)]⟩
abbrev o_Z107:Ty := (.cons yI (.cons (.ptr (.cons (.sl (.int .u8)) (.cons yI (.cons (.int .u64) .nil)))) .nil))
def sg_Z107:Sig := ⟨[(false,1),(false,1)],[.iob,.imm],o_Z107,[(false,1)],[],[(.ptr (.cons (.sl (.int .u8)) (.cons yI (.cons (.int .u64) .nil))))]⟩
abbrev o_Z59:Ty := (.cons yI .nil)
def sg_Z59:Sig := ⟨[(false,1)],[],o_Z59,[(false,1)],[],[]⟩
abbrev o_Z144:Ty := (.cons yK (.cons (.ptr (.cons (.sl (.int .u8)) (.cons yI (.cons (.int .u64) .nil)))) .nil))
def sg_Z144:Sig := ⟨[(false,1)],[.iob],o_Z144,[(true,1)],[],[(.ptr (.cons (.sl (.int .u8)) (.cons yI (.cons (.int .u64) .nil))))]⟩
abbrev o_Z142:Ty := yS
def sg_Z142:Sig := ⟨[(false,1),(false,1),(false,1)],[],o_Z142,[(true,4)],[.deep,.imm,.deep,.deep],[(.ptr (.cons yK .nil))]⟩
abbrev o_Z141:Ty := (.cons yK (.cons yI (.cons yL (.cons yN (.cons (.ptr (.cons (.sl (.int .u8)) (.cons yI (.cons (.int .u64) .nil)))) .nil)))))
def sg_Z141:Sig := ⟨[(false,1),(false,1),(false,1),(false,1)],[.iob,.imm,.imm,.imm],o_Z141,[(true,4)],[.deep,.imm,.deep,.deep],[(.ptr (.cons (.sl (.int .u8)) (.cons yI (.cons (.int .u64) .nil)))),(.ptr (.cons yK .nil))]⟩
abbrev o_Z150:Ty := yS
def sg_Z150:Sig := ⟨[(false,1),(false,1),(false,1)],[],o_Z150,[(true,4)],[.deep,.imm,.deep,.deep],[(.ptr (.cons yK .nil))]⟩
abbrev o_Z139:Ty := (.cons yK .nil)
def sg_Z139:Sig := ⟨[(false,1),(false,1)],[],o_Z139,[(true,1)],[.deep],[(.ptr (.cons yK .nil))]⟩
abbrev o_Z115:Ty := (.cons yI (.cons yI (.cons yI (.cons yL (.cons (.ptr (.cons (.sl (.int .u8)) (.cons yI (.cons (.int .u64) .nil)))) .nil)))))
def sg_Z115:Sig := ⟨[(false,1),(false,1),(false,1),(false,1)],[.iob,.imm,.imm,.imm],o_Z115,[(true,4)],[.imm,.imm,.imm,.deep],[(.ptr (.cons (.sl (.int .u8)) (.cons yI (.cons (.int .u64) .nil))))]⟩
abbrev o_Z154:Ty := (.cons .bool .nil)
def sg_Z154:Sig := ⟨[(false,1),(false,1)],[],o_Z154,[(false,1)],[],[(.ptr (.cons yK .nil))]⟩
abbrev o_Z143:Ty := (.cons yI .nil)
def sg_Z143:Sig := ⟨[(false,1)],[],o_Z143,[(false,1)],[],[(.ptr (.cons yK .nil))]⟩
abbrev o_Z149:Ty := (.cons .bool .nil)
def sg_Z149:Sig := ⟨[(false,1),(false,1),(false,1),(false,1)],[],o_Z149,[(false,1)],[],[(.ptr yS),.nil,.nil,(.ptr yM)]⟩
abbrev o_Z152:Ty := (.cons yI .nil)
def sg_Z152:Sig := ⟨[(false,1),(false,1),(false,1)],[],o_Z152,[(false,1)],[],[(.ptr (.cons yK .nil))]⟩
abbrev o_Z102:Ty := (.cons .bool .nil)
def sg_Z102:Sig := ⟨[(false,1),(false,1),(false,1)],[],o_Z102,[(false,1)],[],[]⟩
abbrev o_Z108:Ty := (.cons yI (.cons (.ptr (.cons (.sl (.int .u8)) (.cons yI (.cons (.int .u64) .nil)))) .nil))
def sg_Z108:Sig := ⟨[(false,1)],[.iob],o_Z108,[(false,1)],[],[(.ptr (.cons (.sl (.int .u8)) (.cons yI (.cons (.int .u64) .nil))))]⟩
abbrev o_Z61:Ty := yM
def sg_Z61:Sig := ⟨[(true,4)],[],o_Z61,[(true,4)],[.imm,.imm,.imm,.deep],[]⟩
abbrev o_Z24:Ty := (.cons yK .nil)
def sg_Z24:Sig := ⟨[(true,4)],[],o_Z24,[(false,1)],[.deep],[]⟩
abbrev o_Z114:Ty := (.cons .bool .nil)
def sg_Z114:Sig := ⟨[(false,1),(false,1),(false,1)],[],o_Z114,[(false,1)],[],[]⟩
abbrev o_Z126:Ty := yM
def sg_Z126:Sig := ⟨[(false,1),(false,1),(false,1)],[],o_Z126,[(true,4)],[.imm,.imm,.imm,.deep],[]⟩
abbrev o_Z132:Ty := (.cons yL .nil)
def sg_Z132:Sig := ⟨[(false,1),(false,1)],[],o_Z132,[(false,1)],[.deep],[(.ptr (.cons yK .nil))]⟩
abbrev o_Z146:Ty := (.cons (.ptr yM) .nil)
def sg_Z146:Sig := ⟨[(false,1),(false,1),(false,1)],[],o_Z146,[(false,1)],[],[(.ptr yS)]⟩
abbrev o_Z27:Ty := (.cons yI .nil)
def sg_Z27:Sig := ⟨[(false,1),(false,1),(false,1)],[],o_Z27,[(false,1)],[],[]⟩
abbrev o_Z8:Ty := (.cons yL .nil)
def sg_Z8:Sig := ⟨[(true,4),(false,1)],[],o_Z8,[(false,1)],[],[]⟩
abbrev o_Z30:Ty := (.cons yL .nil)
def sg_Z30:Sig := ⟨[(true,1),(false,1)],[],o_Z30,[(false,1)],[.deep],[]⟩
abbrev o_Z26:Ty := yM
def sg_Z26:Sig := ⟨[(true,4),(false,1),(false,1)],[],o_Z26,[(true,4)],[],[]⟩
abbrev o_Z7:Ty := (.cons yI .nil)
def sg_Z7:Sig := ⟨[(true,4),(false,1),(false,1)],[],o_Z7,[(false,1)],[],[]⟩
abbrev o_Z109:Ty := (.cons .bool (.cons (.ptr (.cons (.sl (.int .u8)) (.cons yI (.cons (.int .u64) .nil)))) .nil))
def sg_Z109:Sig := ⟨[(false,1),(false,1)],[.iob,.imm],o_Z109,[(false,1)],[],[(.ptr (.cons (.sl (.int .u8)) (.cons yI (.cons (.int .u64) .nil))))]⟩
abbrev o_Z103:Ty := (.cons yL .nil)
def sg_Z103:Sig := ⟨[(false,1)],[],o_Z103,[(false,1)],[.deep],[]⟩
abbrev o_Z118:Ty := (.cons yK .nil)
def sg_Z118:Sig := ⟨[(false,1)],[],o_Z118,[(false,1)],[.deep],[(.ptr yM)]⟩
abbrev o_Z15:Ty := (.cons .bool .nil)
def sg_Z15:Sig := ⟨[(false,1)],[],o_Z15,[(false,1)],[],[]⟩
abbrev o_Z25:Ty := (.cons yI .nil)
def sg_Z25:Sig := ⟨[(false,1),(false,1)],[],o_Z25,[(false,1)],[],[]⟩
abbrev o_Z75:Ty := (.cons .bool .nil)
def sg_Z75:Sig := ⟨[(false,1),(false,1)],[],o_Z75,[(false,1)],[],[]⟩
abbrev o_Z31:Ty := (.cons yK .nil)
def sg_Z31:Sig := ⟨[(false,1)],[],o_Z31,[(false,1)],[.deep],[]⟩
abbrev o_Z11:Ty := (.cons .bool .nil)
def sg_Z11:Sig := ⟨[(false,1),(false,1),(false,1)],[],o_Z11,[(false,1)],[],[.nil,(.ptr (.cons yK .nil)),(.ptr (.cons yI .nil))]⟩
abbrev o_Z28:Ty := (.cons yL (.cons yI (.cons yK .nil)))
def sg_Z28:Sig := ⟨[(false,1),(false,1),(false,1)],[.io false,.imm,.imm],o_Z28,[(false,1),(false,1)],[.deep,.imm],[]⟩
abbrev o_Z82:Ty := (.cons .bool .nil)
def sg_Z82:Sig := ⟨[(false,1),(false,1)],[],o_Z82,[(false,1)],[],[]⟩
abbrev o_Z53:Ty := (.cons yI .nil)
def sg_Z53:Sig := ⟨[(false,1),(false,1)],[],o_Z53,[(false,1)],[],[]⟩
abbrev o_Z22:Ty := (.cons .bool .nil)
def sg_Z22:Sig := ⟨[(false,1)],[],o_Z22,[(false,1)],[],[]⟩
abbrev o_Z72:Ty := (.cons yL .nil)
def sg_Z72:Sig := ⟨[(false,1)],[],o_Z72,[(false,1)],[.deep],[]⟩
abbrev o_Z23:Ty := (.cons (.sl (.st (.cons yI (.cons yI (.cons yI .nil))))) .nil)
def sg_Z23:Sig := ⟨[(true,1)],[],o_Z23,[(false,1)],[.deep],[]⟩
abbrev o_Z32:Ty := yM
def sg_Z32:Sig := ⟨[(false,1),(false,1),(false,1),(false,1)],[],o_Z32,[(true,4)],[.imm,.imm,.imm,.deep],[]⟩
abbrev o_Z64:Ty := (.cons yI .nil)
def sg_Z64:Sig := ⟨[(false,1),(false,1)],[],o_Z64,[(false,1)],[],[]⟩
abbrev o_Z128:Ty := (.cons .bool .nil)
def sg_Z128:Sig := ⟨[(false,1),(false,1)],[],o_Z128,[(false,1)],[],[]⟩
abbrev o_Z131:Ty := (.cons yL .nil)
def sg_Z131:Sig := ⟨[(false,1),(false,1)],[],o_Z131,[(false,1)],[.deep],[]⟩
abbrev o_Z112:Ty := (.cons .bool .nil)
def sg_Z112:Sig := ⟨[(false,1)],[],o_Z112,[(false,1)],[],[]⟩
abbrev o_Z121:Ty := (.cons yI .nil)
def sg_Z121:Sig := ⟨[(false,1)],[],o_Z121,[(false,1)],[],[(.ptr yM)]⟩
abbrev o_Z129:Ty := (.cons yK .nil)
def sg_Z129:Sig := ⟨[(false,1)],[],o_Z129,[(true,1)],[],[]⟩
abbrev o_Z130:Ty := (.cons yL (.cons (.ptr (.cons (.sl (.int .u8)) (.cons yI (.cons (.int .u64) .nil)))) .nil))
def sg_Z130:Sig := ⟨[(false,1),(false,1),(false,1)],[.iob,.imm,.imm],o_Z130,[(false,1)],[],[(.ptr (.cons (.sl (.int .u8)) (.cons yI (.cons (.int .u64) .nil))))]⟩
abbrev o_Z88:Ty := (.cons yI .nil)
def sg_Z88:Sig := ⟨[(false,1),(false,1)],[],o_Z88,[(false,1)],[],[]⟩
abbrev o_Z70:Ty := (.cons yI (.cons .bool .nil))
def sg_Z70:Sig := ⟨[(false,1),(false,1),(false,1)],[],o_Z70,[(false,1),(false,1)],[],[]⟩
abbrev o_Z39:Ty := (.cons .bool .nil)
def sg_Z39:Sig := ⟨[(true,4),(false,1),(false,1),(false,1)],[],o_Z39,[(false,1)],[],[]⟩
abbrev o_Z51:Ty := yM
def sg_Z51:Sig := ⟨[(true,4),(true,4)],[],o_Z51,[(true,4)],[.imm,.imm,.imm,.deep],[]⟩
abbrev o_Z9:Ty := (.cons .bool .nil)
def sg_Z9:Sig := ⟨[(true,4),(true,4)],[],o_Z9,[(false,1)],[],[]⟩
abbrev o_Z20:Ty := (.cons .bool .nil)
def sg_Z20:Sig := ⟨[(true,4),(false,1)],[],o_Z20,[(false,1)],[],[]⟩
abbrev o_Z42:Ty := (.cons .bool .nil)
def sg_Z42:Sig := ⟨[(false,1),(false,1)],[],o_Z42,[(false,1)],[],[.nil,(.ptr (.cons yL .nil))]⟩
abbrev o_Z55:Ty := (.cons .bool .nil)
def sg_Z55:Sig := ⟨[(false,1),(false,1)],[],o_Z55,[(false,1)],[],[.nil,(.ptr (.cons yL .nil))]⟩
abbrev o_Z162:Ty := (.cons .bool .nil)
def sg_Z162:Sig := ⟨[(false,1),(false,1),(false,1)],[],o_Z162,[(false,1)],[],[(.ptr yS)]⟩
abbrev o_Z136:Ty := (.cons .bool .nil)
def sg_Z136:Sig := ⟨[(false,1),(false,1)],[],o_Z136,[(false,1)],[],[]⟩
abbrev o_Z165:Ty := (.cons yI .nil)
def sg_Z165:Sig := ⟨[(false,1),(false,1)],[],o_Z165,[(false,1)],[],[(.ptr yS)]⟩
abbrev o_Z153:Ty := yM
def sg_Z153:Sig := ⟨[(false,1),(false,1),(false,1)],[],o_Z153,[(true,4)],[.imm,.imm,.imm,.deep],[(.ptr yS)]⟩
abbrev o_Z106:Ty := (.cons .bool .nil)
def sg_Z106:Sig := ⟨[(false,1),(false,1)],[],o_Z106,[(false,1)],[],[]⟩
abbrev o_Z157:Ty := (.cons yI (.cons yI (.cons yI .nil)))
def sg_Z157:Sig := ⟨[(false,1)],[],o_Z157,[(false,1),(false,1),(false,1)],[],[(.ptr yS)]⟩
abbrev o_Z127:Ty := yM
def sg_Z127:Sig := ⟨[(false,1),(false,1),(false,1)],[],o_Z127,[(true,4)],[.imm,.imm,.imm,.deep],[]⟩
abbrev o_Z167:Ty := (.cons yK .nil)
def sg_Z167:Sig := ⟨[(false,1),(false,1),(false,1),(false,1)],[],o_Z167,[(false,1)],[.deep],[(.ptr yM)]⟩
abbrev o_Z168:Ty := (.cons yI .nil)
def sg_Z168:Sig := ⟨[(false,1),(false,1)],[],o_Z168,[(false,1)],[],[(.ptr yS)]⟩
abbrev o_Z169:Ty := (.cons yK .nil)
def sg_Z169:Sig := ⟨[(false,1),(false,1),(false,1)],[],o_Z169,[(false,1)],[.deep],[]⟩
abbrev o_Z105:Ty := (.cons .bool .nil)
def sg_Z105:Sig := ⟨[(false,1),(false,1),(false,1)],[],o_Z105,[(false,1)],[],[]⟩
abbrev o_Z120:Ty := (.cons .bool .nil)
def sg_Z120:Sig := ⟨[(false,1)],[],o_Z120,[(false,1)],[],[(.ptr yM)]⟩
abbrev o_Z111:Ty := (.cons yL .nil)
def sg_Z111:Sig := ⟨[(false,1),(false,1),(false,1),(false,1)],[],o_Z111,[(false,1)],[.deep],[]⟩
abbrev o_Z84:Ty := (.cons yL .nil)
def sg_Z84:Sig := ⟨[(false,1),(false,1)],[.take true,.imm],o_Z84,[(false,1)],[.deep],[]⟩
abbrev o_Z125:Ty := yM
def sg_Z125:Sig := ⟨[(false,1),(false,1)],[],o_Z125,[(true,4)],[.imm,.imm,.imm,.deep],[]⟩
abbrev o_Z147:Ty := (.cons yI (.cons yI (.cons yI (.cons yL (.cons (.ptr (.cons (.sl (.int .u8)) (.cons yI (.cons (.int .u64) .nil)))) .nil)))))
def sg_Z147:Sig := ⟨[(false,1),(false,1),(false,1)],[.iob,.imm,.imm],o_Z147,[(true,4)],[.imm,.imm,.imm,.deep],[(.ptr (.cons (.sl (.int .u8)) (.cons yI (.cons (.int .u64) .nil))))]⟩
abbrev o_Z97:Ty := (.cons yI (.cons yI (.cons yI (.cons yL (.cons yI .nil)))))
def sg_Z97:Sig := ⟨[(true,4)],[],o_Z97,[(true,4),(false,1)],[.imm,.imm,.imm,.deep,.imm],[]⟩
abbrev o_Z18:Ty := (.cons .bool .nil)
def sg_Z18:Sig := ⟨[(false,1),(false,1)],[],o_Z18,[(false,1)],[],[]⟩
abbrev o_Z62:Ty := (.cons yI .nil)
def sg_Z62:Sig := ⟨[(false,1),(false,1),(false,1)],[],o_Z62,[(false,1)],[],[.nil,.nil,(.ptr yM)]⟩
abbrev o_Z36:Ty := (.cons yI .nil)
def sg_Z36:Sig := ⟨[(true,4),(false,1)],[],o_Z36,[(false,1)],[],[]⟩
abbrev o_Z122:Ty := (.cons yI (.cons yI (.cons yI (.cons yL (.cons yL (.cons yI .nil))))))
def sg_Z122:Sig := ⟨[(false,1)],[],o_Z122,[(true,4),(false,1),(false,1)],[.imm,.imm,.imm,.deep,.deep,.imm],[(.ptr yM)]⟩
abbrev o_Z101:Ty := (.cons .bool .nil)
def sg_Z101:Sig := ⟨[(false,1),(false,1)],[],o_Z101,[(false,1)],[],[]⟩
abbrev o_Z119:Ty := (.cons yI .nil)
def sg_Z119:Sig := ⟨[(false,1),(false,1)],[],o_Z119,[(false,1)],[],[]⟩
abbrev o_Z43:Ty := (.cons .bool .nil)
def sg_Z43:Sig := ⟨[(false,1)],[],o_Z43,[(false,1)],[],[]⟩
abbrev o_Z16:Ty := (.cons .bool .nil)
def sg_Z16:Sig := ⟨[(false,1)],[],o_Z16,[(false,1)],[],[]⟩
abbrev o_Z45:Ty := (.cons .bool .nil)
def sg_Z45:Sig := ⟨[(false,1)],[],o_Z45,[(false,1)],[],[]⟩
abbrev o_Z2:Ty := (.cons yI .nil)
def sg_Z2:Sig := ⟨[(false,1)],[],o_Z2,[(false,1)],[],[]⟩
abbrev o_Z0:Ty := (.cons yI .nil)
def sg_Z0:Sig := ⟨[(false,1),(false,1)],[],o_Z0,[(false,1)],[],[]⟩
abbrev o_Z73:Ty := (.cons yI .nil)
def sg_Z73:Sig := ⟨[(false,1),(false,1)],[],o_Z73,[(false,1)],[],[]⟩
abbrev o_Z85:Ty := (.cons yI .nil)
def sg_Z85:Sig := ⟨[(false,1),(false,1)],[],o_Z85,[(false,1)],[],[]⟩
abbrev o_Z29:Ty := (.cons .bool .nil)
def sg_Z29:Sig := ⟨[(false,1),(false,1)],[],o_Z29,[(false,1)],[],[.nil,(.ptr (.cons yI .nil))]⟩
abbrev o_Z38:Ty := (.cons yI .nil)
def sg_Z38:Sig := ⟨[(false,1),(false,1)],[],o_Z38,[(false,1)],[],[]⟩
abbrev o_Z137:Ty := (.cons (.ptr (.cons yK .nil)) .nil)
def sg_Z137:Sig := ⟨[(false,1),(false,1)],[.iob,.imm],o_Z137,[],[],[(.ptr (.cons yK .nil))]⟩
abbrev o_Z104:Ty := (.cons yL .nil)
def sg_Z104:Sig := ⟨[(false,1),(false,1)],[],o_Z104,[(false,1)],[.deep],[]⟩
abbrev o_Z12:Ty := (.cons .bool .nil)
def sg_Z12:Sig := ⟨[(true,4)],[],o_Z12,[(false,1)],[],[]⟩
abbrev o_Z52:Ty := (.cons yI .nil)
def sg_Z52:Sig := ⟨[(false,1),(false,1),(false,1),(false,1)],[],o_Z52,[(false,1)],[],[.nil,.nil,(.ptr yM),(.ptr (.cons yK .nil))]⟩
abbrev o_Z156:Ty := yM
def sg_Z156:Sig := ⟨[(false,1),(false,1),(false,1),(false,1)],[],o_Z156,[(true,4)],[.imm,.imm,.imm,.deep],[(.ptr yS)]⟩
abbrev o_Z117:Ty := yM
def sg_Z117:Sig := ⟨[(false,1),(false,1)],[],o_Z117,[(true,4)],[.imm,.imm,.imm,.deep],[(.ptr yM),(.ptr yM)]⟩
abbrev o_Z19:Ty := (.cons .bool .nil)
def sg_Z19:Sig := ⟨[(false,1),(false,1)],[],o_Z19,[(false,1)],[],[.nil,(.ptr (.cons yI .nil))]⟩
abbrev o_Z40:Ty := (.cons .bool .nil)
def sg_Z40:Sig := ⟨[(false,1),(false,1)],[],o_Z40,[(false,1)],[],[]⟩
abbrev o_Z116:Ty := (.cons yI .nil)
def sg_Z116:Sig := ⟨[(false,1),(false,1)],[],o_Z116,[(false,1)],[],[]⟩
abbrev o_Z3:Ty := (.cons .bool .nil)
def sg_Z3:Sig := ⟨[(false,1)],[],o_Z3,[(false,1)],[],[]⟩
abbrev o_Z1:Ty := (.cons yI .nil)
def sg_Z1:Sig := ⟨[(false,1),(false,1)],[],o_Z1,[(false,1)],[],[]⟩
abbrev o_Z50:Ty := (.cons yI .nil)
def sg_Z50:Sig := ⟨[(false,1),(false,1),(false,1)],[],o_Z50,[(false,1)],[],[]⟩
abbrev o_Z44:Ty := (.cons .bool .nil)
def sg_Z44:Sig := ⟨[(false,1)],[],o_Z44,[(false,1)],[],[]⟩
abbrev o_Z4:Ty := (.cons .bool .nil)
def sg_Z4:Sig := ⟨[(false,1)],[],o_Z4,[(false,1)],[],[]⟩
def pol_Z67:Pol := ⟨91,[],[(8,⟨[3,4,5,7],[3],[],[],[],[],[]⟩),(14,⟨[3,8,9],[3,53],[],[],[],[],[]⟩)],[],[(1000052,⟨[3,4,5,7,52],[3],[],[],[],[],[]⟩)],[]⟩
def pol_Z68:Pol := ⟨7,[],[],[],[],[]⟩
def pol_Z5:Pol := ⟨21,[],[],[],[],[]⟩
def pol_Z95:Pol := ⟨16,[(7,[some 14]),(12,[some 15])],[],[],[],[]⟩
def pol_Z6:Pol := ⟨113,[(106,[some 112])],[(7,⟨[1,2,7,8,9,29,30,31],[2,97],[(9,97,yL,true)],[],[],[],[]⟩),(10,⟨[1,2,7,8,9,10,11,29,30,31,36,37,38],[2,97],[(9,97,yL,true)],[],[],[],[]⟩),(14,⟨[1,2,7,8,9,10,11,12,29,30,31,36,37,38,66,67,68],[2,97],[(9,97,yL,true)],[],[],[],[]⟩)],[],[(1000061,⟨[1,2,7,8,9,10,11,12,13,29,30,31,36,37,38,61],[2,97],[],[],[],[],[]⟩)],[]⟩
def pol_Z98:Pol := ⟨27,[],[],[],[],[]⟩
def pol_Z69:Pol := ⟨16,[],[(2,⟨[0,3],[],[],[],[],[],[]⟩)],[],[],[]⟩
def pol_Z96:Pol := ⟨16,[(10,[some 15])],[],[],[],[]⟩
def pol_Z100:Pol := ⟨7,[],[],[],[],[]⟩
def pol_Z145:Pol := ⟨113,[(24,[some 100,none,some 101,some 102]),(33,[some 103,none,some 104,some 105]),(54,[some 106,none,some 107,some 108]),(71,[some 111,none,some 112,some 109]),(96,[none,none,none,some 110])],[(17,⟨[0,2,3,4,7,8],[2,3,56,99],[],[],[],[],[]⟩),(22,⟨[0,2,4,9,10],[2,9,99,109,111,112],[],[],[],[109],[]⟩)],[],[(13,⟨[2,3,4,6],[2,3,39,99],[],[],[],[],[]⟩)],[]⟩
def pol_Z151:Pol := ⟨93,[],[(4,⟨[0,3],[],[],[],[],[],[]⟩),(7,⟨[0,3,4],[],[],[],[],[],[]⟩)],[],[(1000040,⟨[0,40],[],[],[],[],[],[]⟩),(1000073,⟨[0,3,4,73],[],[],[],[],[],[]⟩)],[]⟩
def pol_Z155:Pol := ⟨32,[],[(4,⟨[1,7,8,9],[],[],[],[],[],[]⟩)],[],[],[]⟩
def pol_Z110:Pol := ⟨22,[],[],[],[],[]⟩
def pol_Z113:Pol := ⟨59,[],[(3,⟨[0,1,5,6],[9],[],[],[],[],[]⟩),(7,⟨[0,1,5,6,7,8],[9],[],[],[],[],[]⟩)],[],[],[]⟩
def pol_Z17:Pol := ⟨38,[],[(3,⟨[0,1,2,3,9,12,13],[31],[(9,31,yI,true)],[],[],[],[]⟩)],[],[],[]⟩
def pol_Z58:Pol := ⟨6,[],[],[],[],[]⟩
def pol_Z10:Pol := ⟨41,[],[(2,⟨[1,6,7,8],[1],[],[],[1],[],[]⟩)],[],[(1000030,⟨[1,3,4,6,7,8,30],[1,3],[],[],[],[],[]⟩)],[]⟩
def pol_Z60:Pol := ⟨31,[],[(3,⟨[2,5,11,12,13],[2],[],[],[],[],[]⟩)],[],[],[]⟩
def pol_Z46:Pol := ⟨69,[(12,[some 68])],[(5,⟨[1,3,4,6,23,24],[1,61,68],[(6,61,yL,true)],[],[],[],[]⟩),(11,⟨[1,3,4,6,7,8,23,24,36,37,38],[1,32,61,68],[],[],[],[],[]⟩)],[],[],[]⟩
def pol_Z13:Pol := ⟨19,[],[(4,⟨[0,3],[],[],[],[],[],[]⟩)],[],[],[]⟩
def pol_Z65:Pol := ⟨18,[],[],[],[],[]⟩
def pol_Z21:Pol := ⟨28,[],[(4,⟨[1,2,16],[2],[],[],[],[],[]⟩)],[],[(1000015,⟨[1,2,15],[2],[],[],[],[],[]⟩)],[]⟩
def pol_Z63:Pol := ⟨12,[(8,[none,none,none,some 11])],[],[],[],[]⟩
def pol_Z135:Pol := ⟨66,[],[(4,⟨[0,3],[],[],[],[],[],[]⟩),(10,⟨[0,3,4,5],[],[],[],[],[],[]⟩)],[],[(1000047,⟨[0,3,4,47],[],[],[],[],[],[]⟩),(1000056,⟨[0,3,4,5,56],[],[],[],[],[],[]⟩)],[]⟩
def pol_Z99:Pol := ⟨6,[],[],[],[],[]⟩
def pol_Z134:Pol := ⟨35,[],[(3,⟨[0,1,5,6],[7],[],[],[],[],[]⟩)],[],[],[]⟩
def pol_Z57:Pol := ⟨29,[],[(3,⟨[1,5,9,10,11],[24],[(5,24,yI,true)],[],[],[],[]⟩)],[],[],[]⟩
def pol_Z77:Pol := ⟨11,[],[],[],[],[]⟩
def pol_Z37:Pol := ⟨19,[],[],[],[],[]⟩
def pol_Z94:Pol := ⟨21,[],[(2,⟨[0,1,7,8],[],[],[],[],[],[]⟩)],[],[],[]⟩
def pol_Z14:Pol := ⟨73,[],[(5,⟨[1,3,27,28,29],[1],[],[],[],[],[]⟩)],[],[(1000023,⟨[1,23],[1],[],[],[],[],[]⟩),(1000061,⟨[1,3,27,28,29,61],[1],[],[],[],[],[]⟩)],[]⟩
def pol_Z66:Pol := ⟨90,[],[(2,⟨[1,15,16,17],[1],[],[],[],[],[]⟩),(8,⟨[1,6,7,8,15,16,17,31,32],[1],[],[],[],[],[]⟩),(11,⟨[1,6,7,8,9,10,15,16,17,31,32],[1],[],[],[],[],[]⟩)],[],[(14,⟨[1,6,7,8,9,10,11,15,16,17,31,32],[1,11],[],[],[],[],[]⟩),(15,⟨[1,6,7,8,9,10,11,12,15,16,17,31,32],[1,11,12],[],[],[],[],[]⟩)],[]⟩
def pol_Z140:Pol := ⟨104,[(8,[some 100,none,some 101,some 102]),(75,[none,none,none,some 103])],[],[],[(25,⟨[2,3],[2,3,99],[],[],[],[],[(3,0),(3,2),(3,3)]⟩),(1000046,⟨[0,2,3,10,46],[2,3,99,100,101,102],[],[],[],[],[]⟩)],[]⟩
def pol_Z163:Pol := ⟨40,[],[(4,⟨[0,1,5,6,7],[8,38],[],[],[],[],[]⟩)],[],[],[]⟩
def pol_Z49:Pol := ⟨19,[],[],[],[],[]⟩
def pol_Z48:Pol := ⟨35,[],[(4,⟨[2,6,7,10,11,12],[2,19],[(6,19,yI,true)],[],[],[],[]⟩)],[],[],[]⟩
def pol_Z41:Pol := ⟨11,[],[],[],[],[]⟩
def pol_Z56:Pol := ⟨24,[(14,[some 23])],[(3,⟨[1,3,6,7],[1,16],[(3,16,yL,true)],[],[],[],[]⟩)],[],[],[]⟩
def pol_Z54:Pol := ⟨59,[(20,[none,none,none,some 57]),(50,[none,none,none,some 58])],[],[],[],[]⟩
def pol_Z47:Pol := ⟨18,[(12,[some 17])],[],[],[],[]⟩
def pol_Z159:Pol := ⟨22,[],[],[],[],[]⟩
def pol_Z161:Pol := ⟨108,[],[(2,⟨[0,1,2,8],[],[],[],[],[],[]⟩),(5,⟨[0,1,2,8,9],[],[],[],[],[],[]⟩)],[],[(11,⟨[0,1,2,8,9,10,11,12],[12],[],[],[],[],[]⟩)],[]⟩
def pol_Z148:Pol := ⟨18,[],[],[],[],[]⟩
def pol_Z164:Pol := ⟨17,[(12,[some 16])],[],[],[],[]⟩
def pol_Z158:Pol := ⟨12,[],[],[],[],[]⟩
def pol_Z160:Pol := ⟨74,[(69,[some 73])],[(5,⟨[0,3,4,5,6],[10],[],[],[],[],[]⟩)],[],[],[]⟩
def pol_Z83:Pol := ⟨28,[],[(4,⟨[0,1,12,13],[],[],[],[],[],[]⟩)],[],[],[]⟩
def pol_Z138:Pol := ⟨11,[],[],[],[],[]⟩
def pol_Z133:Pol := ⟨27,[],[(2,⟨[0,1,5],[],[],[],[],[],[]⟩)],[],[],[]⟩
def pol_Z124:Pol := ⟨99,[(22,[none,none,none,some 98])],[(3,⟨[0,1,4,5,6],[4,5,98],[],[],[],[],[]⟩),(6,⟨[0,1,4,5,6,7],[4,5,98],[],[],[],[],[]⟩),(10,⟨[0,1,4,5,6,7,8,9],[4,5,98],[],[],[],[],[]⟩)],[],[(2,⟨[0,1,4,5],[4,5,98],[],[],[],[],[]⟩)],[]⟩
def pol_Z123:Pol := ⟨76,[],[(4,⟨[0,1,5],[],[],[],[],[],[]⟩)],[],[(1000049,⟨[0,1,49],[],[],[],[],[],[]⟩)],[]⟩
def pol_Z74:Pol := ⟨38,[(24,[some 37])],[(3,⟨[0,3,9,10,11],[],[],[],[],[],[]⟩),(11,⟨[6,25,26,27],[37],[],[],[],[],[]⟩)],[],[],[]⟩
def pol_Z166:Pol := ⟨16,[],[],[],[],[]⟩
def pol_Z107:Pol := ⟨14,[],[],[],[],[]⟩
def pol_Z59:Pol := ⟨6,[],[],[],[],[]⟩
def pol_Z144:Pol := ⟨52,[],[(12,⟨[0,2,3,4],[2,37,51],[],[],[],[37],[]⟩)],[],[],[]⟩
def pol_Z142:Pol := ⟨51,[(28,[some 49,none,some 50,some 47]),(41,[none,none,none,some 48])],[(3,⟨[0,1,2,6,7,8],[6,11],[],[],[],[],[]⟩),(8,⟨[1,2,6,9,10],[6,9,47,49,50],[],[],[],[],[]⟩)],[],[],[]⟩
def pol_Z141:Pol := ⟨88,[(20,[some 86,none,some 87,some 84]),(35,[none,none,none,some 83]),(76,[none,none,none,some 85])],[(4,⟨[0,1,2,3,8,9,10,11],[8,9,21,79,84,86,87],[],[],[],[],[]⟩),(8,⟨[1,8,9,10,12],[8,9,21,79,84,86,87],[],[],[],[21],[]⟩),(12,⟨[1,8,9,10,12,13,14],[8,9,21,79,84,86,87],[],[],[],[21],[]⟩)],[],[],[]⟩
def pol_Z150:Pol := ⟨61,[(12,[some 59]),(15,[some 60]),(50,[none,none,none,some 58])],[(3,⟨[0,1,2,6,7,8],[6,7,16,59,60],[],[],[],[],[]⟩),(7,⟨[0,1,2,6,7,8,9,10],[6,7,16,59,60],[],[],[],[],[]⟩)],[],[],[]⟩
def pol_Z139:Pol := ⟨46,[(38,[some 45])],[(3,⟨[0,1,4,5,6],[4,5,7],[],[],[],[],[]⟩)],[],[],[]⟩
def pol_Z115:Pol := ⟨67,[(15,[none,none,none,some 66])],[(3,⟨[0,1,2,3,8,9,10],[8,9,62,66],[],[],[],[],[]⟩),(9,⟨[1,2,3,8,9,11],[8,9,62,66],[],[],[],[],[]⟩)],[],[(12,⟨[8,9],[8,9,62,66],[],[],[],[],[]⟩),(1000038,⟨[1,2,3,8,9,38],[8,9,62,66],[],[],[],[],[]⟩)],[]⟩
def pol_Z154:Pol := ⟨25,[],[(4,⟨[0,1,5],[],[],[],[],[],[]⟩)],[],[],[]⟩
def pol_Z143:Pol := ⟨11,[],[],[],[],[]⟩
def pol_Z149:Pol := ⟨63,[],[],[],[],[]⟩
def pol_Z152:Pol := ⟨39,[],[(3,⟨[0,1,2,7,8],[],[],[],[],[],[]⟩)],[],[],[]⟩
def pol_Z102:Pol := ⟨18,[],[],[],[],[]⟩
def pol_Z108:Pol := ⟨63,[],[],[],[(4,⟨[0,3],[62],[],[],[],[],[]⟩)],[]⟩
def pol_Z61:Pol := ⟨16,[(10,[none,none,none,some 15])],[],[],[],[]⟩
def pol_Z24:Pol := ⟨11,[(5,[some 10])],[],[],[],[]⟩
def pol_Z114:Pol := ⟨29,[],[(2,⟨[0,1,2,7],[],[],[],[],[],[]⟩)],[],[],[]⟩
def pol_Z126:Pol := ⟨18,[],[],[],[],[]⟩
def pol_Z132:Pol := ⟨38,[],[(4,⟨[0,5,6,7],[15],[],[],[],[],[]⟩)],[],[(1000024,⟨[0,5,6,7,24],[15],[],[],[],[],[]⟩)],[]⟩
def pol_Z146:Pol := ⟨21,[],[],[],[],[]⟩
def pol_Z27:Pol := ⟨32,[],[(3,⟨[0,1,2,7,10,11],[],[],[],[],[],[]⟩)],[],[],[]⟩
def pol_Z8:Pol := ⟨22,[],[],[],[],[]⟩
def pol_Z30:Pol := ⟨29,[],[(3,⟨[2,5,13,14,15],[2,24],[(5,24,yI,true)],[],[],[],[]⟩)],[],[],[]⟩
def pol_Z26:Pol := ⟨22,[],[],[],[],[]⟩
def pol_Z7:Pol := ⟨23,[],[],[],[],[]⟩
def pol_Z109:Pol := ⟨11,[],[],[],[],[]⟩
def pol_Z103:Pol := ⟨7,[],[],[],[],[]⟩
def pol_Z118:Pol := ⟨72,[],[(4,⟨[0,3,4,6,7],[3,16],[],[],[],[],[]⟩),(10,⟨[0,3,4,6,7,8,9],[3,16,32],[],[],[],[],[]⟩)],[],[],[]⟩
def pol_Z15:Pol := ⟨21,[],[],[],[],[]⟩
def pol_Z25:Pol := ⟨17,[],[],[],[],[]⟩
def pol_Z75:Pol := ⟨11,[],[],[],[],[]⟩
def pol_Z31:Pol := ⟨29,[(22,[some 28])],[(3,⟨[0,3,6,7],[24],[(3,24,yL,true)],[],[],[],[]⟩)],[],[],[]⟩
def pol_Z11:Pol := ⟨16,[],[],[],[],[]⟩
def pol_Z28:Pol := ⟨125,[(77,[some 123]),(110,[some 124])],[(4,⟨[0,1,2,8,9,16,17],[116,120],[(8,116,yI,true)],[],[],[],[]⟩),(17,⟨[0,1,2,8,9,10,11,16,17,79,80,81],[10,116,120],[],[],[],[],[]⟩)],[],[(13,⟨[0,1,2,8,9,10,11,16,17],[10,116,120],[],[],[],[],[]⟩),(16,⟨[0,1,2,8,9,10,11,16,17],[10,116,120],[],[],[],[],[]⟩),(1000095,⟨[0,1,2,8,9,10,11,14,15,16,17,79,80,81,95],[10,116,120],[],[],[],[],[]⟩)],[]⟩
def pol_Z82:Pol := ⟨11,[],[],[],[],[]⟩
def pol_Z53:Pol := ⟨14,[],[],[],[],[]⟩
def pol_Z22:Pol := ⟨7,[],[],[],[],[]⟩
def pol_Z72:Pol := ⟨9,[],[],[],[(1000004,⟨[0,4],[],[],[],[],[],[]⟩)],[]⟩
def pol_Z23:Pol := ⟨33,[],[(3,⟨[1,3,9,10],[1,28],[(3,28,(.st (.cons yI (.cons yI (.cons yI .nil)))),true)],[],[],[],[]⟩),(6,⟨[1,3,4,9,10,15,16,17],[1,28],[(3,28,(.st (.cons yI (.cons yI (.cons yI .nil)))),true)],[],[],[],[]⟩)],[],[],[]⟩
def pol_Z32:Pol := ⟨40,[],[(3,⟨[2,3,8,9,16,17],[8,9,31],[],[(9,3,31,yI,true)],[],[],[]⟩),(6,⟨[2,3,8,9,10,16,17,20,21],[8,9,31],[],[(9,3,31,yI,true)],[],[],[]⟩)],[],[],[]⟩
def pol_Z64:Pol := ⟨10,[],[],[],[],[]⟩
def pol_Z128:Pol := ⟨42,[],[(4,⟨[0,1,5],[],[],[],[],[],[]⟩)],[],[],[]⟩
def pol_Z131:Pol := ⟨19,[(9,[some 18])],[],[],[],[]⟩
def pol_Z112:Pol := ⟨19,[],[(4,⟨[0,3],[],[],[],[],[],[]⟩)],[],[],[]⟩
def pol_Z121:Pol := ⟨15,[],[],[],[],[]⟩
def pol_Z129:Pol := ⟨20,[],[(3,⟨[0,2,3,4],[2,3],[],[],[],[],[(3,0)]⟩)],[],[],[]⟩
def pol_Z130:Pol := ⟨27,[],[(3,⟨[0,1,7,8],[24],[],[],[],[],[(1000007,0)]⟩)],[],[],[]⟩
def pol_Z88:Pol := ⟨21,[],[(2,⟨[0,1,7,8],[],[],[],[],[],[]⟩)],[],[],[]⟩
def pol_Z70:Pol := ⟨52,[],[(3,⟨[0,1,2,8,9,10],[],[],[],[],[],[]⟩)],[],[],[]⟩
def pol_Z39:Pol := ⟨36,[],[],[],[],[]⟩
def pol_Z51:Pol := ⟨25,[(15,[none,none,none,some 24])],[],[],[],[]⟩
def pol_Z9:Pol := ⟨39,[],[],[],[],[]⟩
def pol_Z20:Pol := ⟨20,[],[],[],[],[]⟩
def pol_Z42:Pol := ⟨10,[],[],[],[],[]⟩
def pol_Z55:Pol := ⟨10,[],[],[],[],[]⟩
def pol_Z162:Pol := ⟨34,[],[(2,⟨[0,1,2,7],[],[],[],[],[],[]⟩)],[],[],[]⟩
def pol_Z136:Pol := ⟨21,[],[(2,⟨[0,1,5],[],[],[],[],[],[]⟩)],[],[],[]⟩
def pol_Z165:Pol := ⟨28,[],[(3,⟨[0,1,5,6],[],[],[],[],[],[]⟩)],[],[],[]⟩
def pol_Z153:Pol := ⟨69,[(24,[none,none,none,some 67]),(63,[none,none,none,some 68])],[(5,⟨[0,1,2,6,7,8],[6],[],[],[],[],[]⟩)],[],[],[]⟩
def pol_Z106:Pol := ⟨28,[],[(4,⟨[0,1,5],[],[],[],[],[],[]⟩)],[],[],[]⟩
def pol_Z157:Pol := ⟨62,[],[(2,⟨[0,5],[],[],[],[],[],[]⟩),(6,⟨[0,5,6,7],[],[],[],[],[],[]⟩),(9,⟨[0,5,6,7,8],[],[],[],[],[],[]⟩)],[],[(1000036,⟨[0,5,6,7,36],[],[],[],[],[],[]⟩)],[]⟩
def pol_Z127:Pol := ⟨33,[],[(3,⟨[2,6,7,8],[6,7,13],[],[],[],[],[]⟩)],[],[],[]⟩
def pol_Z167:Pol := ⟨67,[],[(3,⟨[0,1,2,3,9,10],[13],[],[],[],[],[]⟩),(7,⟨[0,1,2,3,9,10,11,12],[13,23],[],[],[],[],[]⟩)],[],[],[]⟩
def pol_Z168:Pol := ⟨24,[],[(3,⟨[0,1,5,6],[],[],[],[],[],[]⟩)],[],[],[]⟩
def pol_Z169:Pol := ⟨34,[(26,[some 33])],[(3,⟨[0,1,2,7,8],[9],[],[],[],[],[]⟩)],[],[],[]⟩
def pol_Z105:Pol := ⟨41,[],[(2,⟨[0,1,2,7],[],[],[],[],[],[]⟩)],[],[(1000037,⟨[0,1,2,7,37],[],[],[],[],[],[]⟩)],[]⟩
def pol_Z120:Pol := ⟨43,[],[],[],[],[]⟩
def pol_Z111:Pol := ⟨39,[],[(3,⟨[0,1,2,3,9,10],[11],[],[],[],[],[]⟩)],[],[],[]⟩
def pol_Z125:Pol := ⟨28,[(10,[none,none,none,some 27])],[(3,⟨[1,4,5,6],[4,5,27],[],[],[],[],[]⟩)],[],[],[]⟩
def pol_Z147:Pol := ⟨65,[(15,[none,none,none,some 63]),(22,[none,none,none,some 64])],[(6,⟨[0,1,2,6,8,9],[6,8,60,64],[],[],[],[],[]⟩),(10,⟨[0,1,2,6,8,9,10],[6,8,60,64],[],[],[],[],[]⟩)],[],[],[]⟩
def pol_Z97:Pol := ⟨84,[(43,[none,none,none,some 83])],[(12,⟨[1,2,5,6,9,10],[1,2,5,6,9,83],[],[],[],[],[]⟩),(15,⟨[1,2,5,6,9,10,11],[1,2,5,6,9,83],[],[],[],[],[]⟩)],[],[],[]⟩
def pol_Z18:Pol := ⟨11,[],[],[],[],[]⟩
def pol_Z62:Pol := ⟨13,[],[],[],[],[]⟩
def pol_Z36:Pol := ⟨32,[],[(3,⟨[5,12,13,14],[],[],[],[],[],[]⟩)],[],[],[]⟩
def pol_Z122:Pol := ⟨248,[(37,[some 247])],[(8,⟨[0,2,5,6,7,8,9,10,11],[2,5,47,247],[],[],[],[],[]⟩),(11,⟨[0,2,5,6,7,8,9,10,11,12],[2,5,47,247],[],[],[],[],[]⟩),(17,⟨[0,2,5,6,7,8,9,10,11,12,13],[2,5,47,247],[],[],[],[],[]⟩),(26,⟨[0,2,5,6,7,8,9,10,11,16,17],[2,5,47,247],[],[],[],[],[]⟩),(30,⟨[0,2,5,6,7,8,9,10,11,18],[2,5,47,247],[],[],[],[],[]⟩),(35,⟨[0,2,5,6,7,8,9,10,11,18,19,20],[2,5,47,247],[],[],[],[],[]⟩)],[],[(2,⟨[0,2,5],[2,5,247],[],[],[],[],[]⟩),(22,⟨[0,2,5,6,7,8,9,10,11],[2,5,47,247],[],[],[],[],[]⟩),(1000058,⟨[0,2,5,6,7,8,9,10,11,58],[2,5,47,247],[],[],[],[],[]⟩),(1000079,⟨[0,2,5,6,7,8,9,10,11,12,79],[2,5,47,247],[],[],[],[],[]⟩),(1000200,⟨[0,2,5,6,7,8,9,10,11,18,19,200],[2,5,47,247],[],[],[],[],[]⟩)],[]⟩
def pol_Z101:Pol := ⟨20,[],[(2,⟨[0,1,5],[],[],[],[],[],[]⟩)],[],[],[]⟩
def pol_Z119:Pol := ⟨14,[],[],[],[],[]⟩
def pol_Z43:Pol := ⟨21,[],[(2,⟨[0,3],[],[],[],[],[],[]⟩)],[],[],[]⟩
def pol_Z16:Pol := ⟨7,[],[],[],[],[]⟩
def pol_Z45:Pol := ⟨6,[],[],[],[],[]⟩
def pol_Z2:Pol := ⟨19,[],[(3,⟨[3,6,7,8],[],[],[],[],[],[]⟩)],[],[],[]⟩
def pol_Z0:Pol := ⟨22,[],[],[],[],[]⟩
def pol_Z73:Pol := ⟨38,[],[(2,⟨[0,1,9,10,11],[],[],[],[],[],[]⟩)],[],[],[]⟩
def pol_Z85:Pol := ⟨21,[],[(2,⟨[0,1,7,8],[],[],[],[],[],[]⟩)],[],[],[]⟩
def pol_Z29:Pol := ⟨11,[],[],[],[],[]⟩
def pol_Z38:Pol := ⟨12,[],[],[],[],[]⟩
def pol_Z137:Pol := ⟨74,[(57,[some 73])],[(2,⟨[0,1,4],[71],[],[],[],[],[]⟩),(6,⟨[0,1,5],[71],[],[],[],[],[]⟩)],[],[(1000019,⟨[0,1,4,19],[71],[],[],[],[],[]⟩),(1000044,⟨[0,1,5,44],[71],[],[],[],[],[]⟩)],[]⟩
def pol_Z104:Pol := ⟨51,[],[(4,⟨[0,1,5,6,7],[8],[],[],[],[],[]⟩)],[],[(10,⟨[0,1,5,6,7],[8],[],[],[],[],[]⟩),(1000024,⟨[0,1,5,6,7,24],[8],[],[],[],[],[]⟩)],[]⟩
def pol_Z12:Pol := ⟨38,[],[],[],[],[]⟩
def pol_Z52:Pol := ⟨21,[],[],[],[],[]⟩
def pol_Z156:Pol := ⟨37,[(31,[none,none,none,some 36])],[],[],[(4,⟨[0,1,2,3,8,9],[8],[],[],[],[],[]⟩)],[]⟩
def pol_Z117:Pol := ⟨81,[],[(3,⟨[0,1,4,5,6],[4,5,24],[],[],[],[],[]⟩)],[],[(2,⟨[0,1,4,5],[4,5,24],[],[],[],[],[]⟩)],[]⟩
def pol_Z19:Pol := ⟨10,[],[],[],[],[]⟩
def pol_Z40:Pol := ⟨11,[],[],[],[],[]⟩
def pol_Z116:Pol := ⟨21,[],[(3,⟨[0,1,5,6],[],[],[],[],[],[]⟩)],[],[],[]⟩
def pol_Z3:Pol := ⟨7,[],[],[],[],[]⟩
def pol_Z1:Pol := ⟨22,[],[],[],[],[]⟩
def pol_Z50:Pol := ⟨29,[],[(2,⟨[0,1,2,7],[],[],[],[],[],[]⟩)],[],[],[]⟩
def pol_Z44:Pol := ⟨6,[],[],[],[],[]⟩
def pol_Z4:Pol := ⟨7,[],[],[],[],[]⟩
def sigL:List (Option Sig) := [none,none,none,none,none,none,none,some sg_Z67,none,none,none,none,none,none,none,none,none,none,none,none,none,none,none,none,some sg_Z68,none,none,none,none,none,none,none,none,none,none,none,none,none,none,none,none,some sg_Z5,none,some sg_Z95,some sg_Z6,some sg_Z98,some sg_Z69,some sg_Z96,none,none,none,none,none,none,none,none,none,none,none,none,none,none,none,none,none,none,none,none,none,none,none,none,none,none,none,none,none,none,some sg_Z100,some sg_Z145,none,none,some sg_Z151,none,some sg_Z155,some sg_Z110,none,none,none,none,none,none,some sg_Z113,none,none,none,some sg_Z17,none,none,none,none,none,none,some sg_Z58,none,none,none,none,some sg_Z10,none,none,some sg_Z60,some sg_Z46,some sg_Z13,some sg_Z65,some sg_Z21,none,none,none,some sg_Z63,some sg_Z135,some sg_Z99,none,none,none,some sg_Z134,none,none,some sg_Z57,some sg_Z77,none,none,some sg_Z37,some sg_Z94,some sg_Z14,some sg_Z66,none,none,some sg_Z140,some sg_Z163,some sg_Z49,some sg_Z48,some sg_Z41,some sg_Z56,some sg_Z54,some sg_Z47,some sg_Z159,some sg_Z161,some sg_Z148,some sg_Z164,some sg_Z158,some sg_Z160,none,none,none,some sg_Z83,some sg_Z138,some sg_Z133,none,none,some sg_Z124,some sg_Z123,none,none,none,none,none,none,none,none,none,none,none,none,none,some sg_Z74,some sg_Z166,none,none,some sg_Z107,none,some sg_Z59,none,none,none,none,some sg_Z144,some sg_Z142,some sg_Z141,some sg_Z150,some sg_Z139,some sg_Z115,none,some sg_Z154,some sg_Z143,some sg_Z149,some sg_Z152,some sg_Z102,some sg_Z108,none,none,some sg_Z61,none,some sg_Z24,none,some sg_Z114,some sg_Z126,some sg_Z132,none,some sg_Z146,none,some sg_Z27,some sg_Z8,some sg_Z30,some sg_Z26,none,some sg_Z7,none,some sg_Z109,none,none,none,some sg_Z103,none,none,none,none,none,some sg_Z118,some sg_Z15,some sg_Z25,some sg_Z75,some sg_Z31,some sg_Z11,none,none,none,some sg_Z28,some sg_Z82,some sg_Z53,some sg_Z22,some sg_Z72,some sg_Z23,none,some sg_Z32,some sg_Z64,some sg_Z128,some sg_Z131,some sg_Z112,some sg_Z121,some sg_Z129,some sg_Z130,none,some sg_Z88,some sg_Z70,some sg_Z39,some sg_Z51,some sg_Z9,none,some sg_Z20,some sg_Z42,some sg_Z55,some sg_Z162,some sg_Z136,some sg_Z165,some sg_Z153,some sg_Z106,some sg_Z157,some sg_Z127,some sg_Z167,some sg_Z168,some sg_Z169,none,none,some sg_Z105,some sg_Z120,none,none,none,none,some sg_Z111,none,none,none,none,some sg_Z84,none,some sg_Z125,some sg_Z147,some sg_Z97,some sg_Z18,none,some sg_Z62,some sg_Z36,none,none,none,none,some sg_Z122,some sg_Z101,some sg_Z119,some sg_Z43,some sg_Z16,some sg_Z45,some sg_Z2,some sg_Z0,some sg_Z73,some sg_Z85,none,none,some sg_Z29,some sg_Z38,some sg_Z137,some sg_Z104,some sg_Z12,some sg_Z52,some sg_Z156,none,none,none,some sg_Z117,some sg_Z19,some sg_Z40,none,none,none,some sg_Z116,some sg_Z3,some sg_Z1,none,none,none,none,none,none,none,none,none,none,none,some sg_Z50,some sg_Z44,none,none,none,none,none,none,none,none,none,some sg_Z4,none,none,none,none,none,none,none,none,none,none,none,none,none,none,none,none,none,none,none,none,none,none,none,none,none,none]
def fnL:List (Option (Func × Pol)) := [none,none,none,none,none,none,none,some (F_Z67,pol_Z67),none,none,none,none,none,none,none,none,none,none,none,none,none,none,none,none,some (F_Z68,pol_Z68),none,none,none,none,none,none,none,none,none,none,none,none,none,none,none,none,some (F_Z5,pol_Z5),none,some (F_Z95,pol_Z95),some (F_Z6,pol_Z6),some (F_Z98,pol_Z98),some (F_Z69,pol_Z69),some (F_Z96,pol_Z96),none,none,none,none,none,none,none,none,none,none,none,none,none,none,none,none,none,none,none,none,none,none,none,none,none,none,none,none,none,none,some (F_Z100,pol_Z100),some (F_Z145,pol_Z145),none,none,some (F_Z151,pol_Z151),none,some (F_Z155,pol_Z155),some (F_Z110,pol_Z110),none,none,none,none,none,none,some (F_Z113,pol_Z113),none,none,none,some (F_Z17,pol_Z17),none,none,none,none,none,none,some (F_Z58,pol_Z58),none,none,none,none,some (F_Z10,pol_Z10),none,none,some (F_Z60,pol_Z60),some (F_Z46,pol_Z46),some (F_Z13,pol_Z13),some (F_Z65,pol_Z65),some (F_Z21,pol_Z21),none,none,none,some (F_Z63,pol_Z63),some (F_Z135,pol_Z135),some (F_Z99,pol_Z99),none,none,none,some (F_Z134,pol_Z134),none,none,some (F_Z57,pol_Z57),some (F_Z77,pol_Z77),none,none,some (F_Z37,pol_Z37),some (F_Z94,pol_Z94),some (F_Z14,pol_Z14),some (F_Z66,pol_Z66),none,none,some (F_Z140,pol_Z140),some (F_Z163,pol_Z163),some (F_Z49,pol_Z49),some (F_Z48,pol_Z48),some (F_Z41,pol_Z41),some (F_Z56,pol_Z56),some (F_Z54,pol_Z54),some (F_Z47,pol_Z47),some (F_Z159,pol_Z159),some (F_Z161,pol_Z161),some (F_Z148,pol_Z148),some (F_Z164,pol_Z164),some (F_Z158,pol_Z158),some (F_Z160,pol_Z160),none,none,none,some (F_Z83,pol_Z83),some (F_Z138,pol_Z138),some (F_Z133,pol_Z133),none,none,some (F_Z124,pol_Z124),some (F_Z123,pol_Z123),none,none,none,none,none,none,none,none,none,none,none,none,none,some (F_Z74,pol_Z74),some (F_Z166,pol_Z166),none,none,some (F_Z107,pol_Z107),none,some (F_Z59,pol_Z59),none,none,none,none,some (F_Z144,pol_Z144),some (F_Z142,pol_Z142),some (F_Z141,pol_Z141),some (F_Z150,pol_Z150),some (F_Z139,pol_Z139),some (F_Z115,pol_Z115),none,some (F_Z154,pol_Z154),some (F_Z143,pol_Z143),some (F_Z149,pol_Z149),some (F_Z152,pol_Z152),some (F_Z102,pol_Z102),some (F_Z108,pol_Z108),none,none,some (F_Z61,pol_Z61),none,some (F_Z24,pol_Z24),none,some (F_Z114,pol_Z114),some (F_Z126,pol_Z126),some (F_Z132,pol_Z132),none,some (F_Z146,pol_Z146),none,some (F_Z27,pol_Z27),some (F_Z8,pol_Z8),some (F_Z30,pol_Z30),some (F_Z26,pol_Z26),none,some (F_Z7,pol_Z7),none,some (F_Z109,pol_Z109),none,none,none,some (F_Z103,pol_Z103),none,none,none,none,none,some (F_Z118,pol_Z118),some (F_Z15,pol_Z15),some (F_Z25,pol_Z25),some (F_Z75,pol_Z75),some (F_Z31,pol_Z31),some (F_Z11,pol_Z11),none,none,none,some (F_Z28,pol_Z28),some (F_Z82,pol_Z82),some (F_Z53,pol_Z53),some (F_Z22,pol_Z22),some (F_Z72,pol_Z72),some (F_Z23,pol_Z23),none,some (F_Z32,pol_Z32),some (F_Z64,pol_Z64),some (F_Z128,pol_Z128),some (F_Z131,pol_Z131),some (F_Z112,pol_Z112),some (F_Z121,pol_Z121),some (F_Z129,pol_Z129),some (F_Z130,pol_Z130),none,some (F_Z88,pol_Z88),some (F_Z70,pol_Z70),some (F_Z39,pol_Z39),some (F_Z51,pol_Z51),some (F_Z9,pol_Z9),none,some (F_Z20,pol_Z20),some (F_Z42,pol_Z42),some (F_Z55,pol_Z55),some (F_Z162,pol_Z162),some (F_Z136,pol_Z136),some (F_Z165,pol_Z165),some (F_Z153,pol_Z153),some (F_Z106,pol_Z106),some (F_Z157,pol_Z157),some (F_Z127,pol_Z127),some (F_Z167,pol_Z167),some (F_Z168,pol_Z168),some (F_Z169,pol_Z169),none,none,some (F_Z105,pol_Z105),some (F_Z120,pol_Z120),none,none,none,none,some (F_Z111,pol_Z111),none,none,none,none,none,none,some (F_Z125,pol_Z125),some (F_Z147,pol_Z147),some (F_Z97,pol_Z97),some (F_Z18,pol_Z18),none,some (F_Z62,pol_Z62),some (F_Z36,pol_Z36),none,none,none,none,some (F_Z122,pol_Z122),some (F_Z101,pol_Z101),some (F_Z119,pol_Z119),some (F_Z43,pol_Z43),some (F_Z16,pol_Z16),some (F_Z45,pol_Z45),some (F_Z2,pol_Z2),some (F_Z0,pol_Z0),some (F_Z73,pol_Z73),some (F_Z85,pol_Z85),none,none,some (F_Z29,pol_Z29),some (F_Z38,pol_Z38),some (F_Z137,pol_Z137),some (F_Z104,pol_Z104),some (F_Z12,pol_Z12),some (F_Z52,pol_Z52),some (F_Z156,pol_Z156),none,none,none,some (F_Z117,pol_Z117),some (F_Z19,pol_Z19),some (F_Z40,pol_Z40),none,none,none,some (F_Z116,pol_Z116),some (F_Z3,pol_Z3),some (F_Z1,pol_Z1),none,none,none,none,none,none,none,none,none,none,none,some (F_Z50,pol_Z50),some (F_Z44,pol_Z44),none,none,none,none,none,none,none,none,none,some (F_Z4,pol_Z4),none,none,none,none,none,none,none,none,none,none,none,none,none,none,none,none,none,none,none,none,none,none,none,none,none,none]
def primL:List (Option (Run → List Dv → Option Dv)) := [none,none,none,none,none,none,none,none,none,none,none,none,none,none,none,none,none,none,none,none,none,none,none,none,none,none,none,none,none,none,none,none,none,none,none,none,none,none,none,none,none,none,none,none,none,none,none,none,none,none,none,none,none,none,none,none,none,none,none,none,none,none,none,none,none,none,none,none,none,none,none,none,none,none,none,none,none,none,none,none,none,none,none,none,none,none,none,none,none,none,none,none,none,none,none,none,none,none,none,none,none,none,none,none,none,none,none,none,none,none,none,none,none,none,none,none,none,none,none,none,none,none,none,none,none,none,none,none,none,none,none,none,none,none,none,none,none,none,none,none,none,none,none,none,none,none,none,none,none,none,none,none,none,none,none,none,none,none,none,none,none,none,none,none,none,none,none,none,none,none,none,none,none,none,none,none,none,none,none,none,none,none,none,none,none,none,none,none,none,none,none,none,none,none,none,none,none,none,none,none,none,none,none,none,none,none,none,none,none,none,none,none,none,none,none,none,none,none,none,none,none,none,none,none,none,none,none,none,none,none,none,none,none,none,none,none,none,none,none,none,none,none,none,none,none,none,none,none,none,none,none,none,none,none,none,none,none,none,none,none,none,none,none,none,none,none,none,none,none,none,none,none,none,none,none,none,none,none,none,none,none,none,none,none,none,some (qnb yI),none,none,none,none,none,none,none,none,none,none,none,none,none,none,none,none,none,none,none,none,none,none,none,none,none,none,none,none,none,none,none,none,none,none,none,none,none,none,none,none,none,none,none,none,none,none,none,none,none,none,none,none,none,none,none,none,none,none,none,none,none,none,none,none,none,none,none,none,none,none,none,none,none,none,none,none,none,none,none,none,none,none,none,none,none,none,none,none,none,none,none,none]
def E:Env := { P := Tryz.prog,fn := fun f => fnL.getD f none,prim := fun f => primL.getD f none,sig := fun f => sigL.getD f none }
theorem sig_laws_FnLocal_eq:E.sig n_Z67 = some sg_Z67 := rfl
theorem run_Z67 (n:Nat) (args:List Dv):run E (n + 1) n_Z67 args = qro E (mkR (run E n)) sg_Z67 pol_Z67 F_Z67 n args := rfl
theorem run_Z68 (n:Nat) (args:List Dv):run E (n + 1) n_Z68 args = qro E (mkR (run E n)) sg_Z68 pol_Z68 F_Z68 n args := rfl
theorem run_Z5 (n:Nat) (args:List Dv):run E (n + 1) n_Z5 args = qro E (mkR (run E n)) sg_Z5 pol_Z5 F_Z5 n args := rfl
theorem run_Z95 (n:Nat) (args:List Dv):run E (n + 1) n_Z95 args = qro E (mkR (run E n)) sg_Z95 pol_Z95 F_Z95 n args := rfl
theorem run_Z6 (n:Nat) (args:List Dv):run E (n + 1) n_Z6 args = qro E (mkR (run E n)) sg_Z6 pol_Z6 F_Z6 n args := rfl
theorem run_Z98 (n:Nat) (args:List Dv):run E (n + 1) n_Z98 args = qro E (mkR (run E n)) sg_Z98 pol_Z98 F_Z98 n args := rfl
theorem run_Z69 (n:Nat) (args:List Dv):run E (n + 1) n_Z69 args = qro E (mkR (run E n)) sg_Z69 pol_Z69 F_Z69 n args := rfl
theorem run_Z96 (n:Nat) (args:List Dv):run E (n + 1) n_Z96 args = qro E (mkR (run E n)) sg_Z96 pol_Z96 F_Z96 n args := rfl
theorem run_Z100 (n:Nat) (args:List Dv):run E (n + 1) n_Z100 args = qro E (mkR (run E n)) sg_Z100 pol_Z100 F_Z100 n args := rfl
theorem run_Z145 (n:Nat) (args:List Dv):run E (n + 1) n_Z145 args = qro E (mkR (run E n)) sg_Z145 pol_Z145 F_Z145 n args := rfl
theorem run_Z151 (n:Nat) (args:List Dv):run E (n + 1) n_Z151 args = qro E (mkR (run E n)) sg_Z151 pol_Z151 F_Z151 n args := rfl
theorem run_Z155 (n:Nat) (args:List Dv):run E (n + 1) n_Z155 args = qro E (mkR (run E n)) sg_Z155 pol_Z155 F_Z155 n args := rfl
theorem run_Z110 (n:Nat) (args:List Dv):run E (n + 1) n_Z110 args = qro E (mkR (run E n)) sg_Z110 pol_Z110 F_Z110 n args := rfl
theorem run_Z113 (n:Nat) (args:List Dv):run E (n + 1) n_Z113 args = qro E (mkR (run E n)) sg_Z113 pol_Z113 F_Z113 n args := rfl
theorem run_Z17 (n:Nat) (args:List Dv):run E (n + 1) n_Z17 args = qro E (mkR (run E n)) sg_Z17 pol_Z17 F_Z17 n args := rfl
theorem run_Z58 (n:Nat) (args:List Dv):run E (n + 1) n_Z58 args = qro E (mkR (run E n)) sg_Z58 pol_Z58 F_Z58 n args := rfl
theorem run_Z10 (n:Nat) (args:List Dv):run E (n + 1) n_Z10 args = qro E (mkR (run E n)) sg_Z10 pol_Z10 F_Z10 n args := rfl
theorem run_Z60 (n:Nat) (args:List Dv):run E (n + 1) n_Z60 args = qro E (mkR (run E n)) sg_Z60 pol_Z60 F_Z60 n args := rfl
theorem run_Z46 (n:Nat) (args:List Dv):run E (n + 1) n_Z46 args = qro E (mkR (run E n)) sg_Z46 pol_Z46 F_Z46 n args := rfl
theorem run_Z13 (n:Nat) (args:List Dv):run E (n + 1) n_Z13 args = qro E (mkR (run E n)) sg_Z13 pol_Z13 F_Z13 n args := rfl
theorem run_Z65 (n:Nat) (args:List Dv):run E (n + 1) n_Z65 args = qro E (mkR (run E n)) sg_Z65 pol_Z65 F_Z65 n args := rfl
theorem run_Z21 (n:Nat) (args:List Dv):run E (n + 1) n_Z21 args = qro E (mkR (run E n)) sg_Z21 pol_Z21 F_Z21 n args := rfl
theorem run_Z63 (n:Nat) (args:List Dv):run E (n + 1) n_Z63 args = qro E (mkR (run E n)) sg_Z63 pol_Z63 F_Z63 n args := rfl
theorem run_Z135 (n:Nat) (args:List Dv):run E (n + 1) n_Z135 args = qro E (mkR (run E n)) sg_Z135 pol_Z135 F_Z135 n args := rfl
theorem run_Z99 (n:Nat) (args:List Dv):run E (n + 1) n_Z99 args = qro E (mkR (run E n)) sg_Z99 pol_Z99 F_Z99 n args := rfl
theorem run_Z134 (n:Nat) (args:List Dv):run E (n + 1) n_Z134 args = qro E (mkR (run E n)) sg_Z134 pol_Z134 F_Z134 n args := rfl
theorem run_Z57 (n:Nat) (args:List Dv):run E (n + 1) n_Z57 args = qro E (mkR (run E n)) sg_Z57 pol_Z57 F_Z57 n args := rfl
theorem run_Z77 (n:Nat) (args:List Dv):run E (n + 1) n_Z77 args = qro E (mkR (run E n)) sg_Z77 pol_Z77 F_Z77 n args := rfl
theorem run_Z37 (n:Nat) (args:List Dv):run E (n + 1) n_Z37 args = qro E (mkR (run E n)) sg_Z37 pol_Z37 F_Z37 n args := rfl
theorem run_Z94 (n:Nat) (args:List Dv):run E (n + 1) n_Z94 args = qro E (mkR (run E n)) sg_Z94 pol_Z94 F_Z94 n args := rfl
theorem run_Z14 (n:Nat) (args:List Dv):run E (n + 1) n_Z14 args = qro E (mkR (run E n)) sg_Z14 pol_Z14 F_Z14 n args := rfl
theorem run_Z66 (n:Nat) (args:List Dv):run E (n + 1) n_Z66 args = qro E (mkR (run E n)) sg_Z66 pol_Z66 F_Z66 n args := rfl
theorem run_Z140 (n:Nat) (args:List Dv):run E (n + 1) n_Z140 args = qro E (mkR (run E n)) sg_Z140 pol_Z140 F_Z140 n args := rfl
theorem run_Z163 (n:Nat) (args:List Dv):run E (n + 1) n_Z163 args = qro E (mkR (run E n)) sg_Z163 pol_Z163 F_Z163 n args := rfl
theorem run_Z49 (n:Nat) (args:List Dv):run E (n + 1) n_Z49 args = qro E (mkR (run E n)) sg_Z49 pol_Z49 F_Z49 n args := rfl
theorem run_Z48 (n:Nat) (args:List Dv):run E (n + 1) n_Z48 args = qro E (mkR (run E n)) sg_Z48 pol_Z48 F_Z48 n args := rfl
theorem run_Z41 (n:Nat) (args:List Dv):run E (n + 1) n_Z41 args = qro E (mkR (run E n)) sg_Z41 pol_Z41 F_Z41 n args := rfl
theorem run_Z56 (n:Nat) (args:List Dv):run E (n + 1) n_Z56 args = qro E (mkR (run E n)) sg_Z56 pol_Z56 F_Z56 n args := rfl
theorem run_Z54 (n:Nat) (args:List Dv):run E (n + 1) n_Z54 args = qro E (mkR (run E n)) sg_Z54 pol_Z54 F_Z54 n args := rfl
theorem run_Z47 (n:Nat) (args:List Dv):run E (n + 1) n_Z47 args = qro E (mkR (run E n)) sg_Z47 pol_Z47 F_Z47 n args := rfl
theorem run_Z159 (n:Nat) (args:List Dv):run E (n + 1) n_Z159 args = qro E (mkR (run E n)) sg_Z159 pol_Z159 F_Z159 n args := rfl
theorem run_Z161 (n:Nat) (args:List Dv):run E (n + 1) n_Z161 args = qro E (mkR (run E n)) sg_Z161 pol_Z161 F_Z161 n args := rfl
theorem run_Z148 (n:Nat) (args:List Dv):run E (n + 1) n_Z148 args = qro E (mkR (run E n)) sg_Z148 pol_Z148 F_Z148 n args := rfl
theorem run_Z164 (n:Nat) (args:List Dv):run E (n + 1) n_Z164 args = qro E (mkR (run E n)) sg_Z164 pol_Z164 F_Z164 n args := rfl
theorem run_Z158 (n:Nat) (args:List Dv):run E (n + 1) n_Z158 args = qro E (mkR (run E n)) sg_Z158 pol_Z158 F_Z158 n args := rfl
theorem run_Z160 (n:Nat) (args:List Dv):run E (n + 1) n_Z160 args = qro E (mkR (run E n)) sg_Z160 pol_Z160 F_Z160 n args := rfl
theorem run_Z83 (n:Nat) (args:List Dv):run E (n + 1) n_Z83 args = qro E (mkR (run E n)) sg_Z83 pol_Z83 F_Z83 n args := rfl
theorem run_Z138 (n:Nat) (args:List Dv):run E (n + 1) n_Z138 args = qro E (mkR (run E n)) sg_Z138 pol_Z138 F_Z138 n args := rfl
theorem run_Z133 (n:Nat) (args:List Dv):run E (n + 1) n_Z133 args = qro E (mkR (run E n)) sg_Z133 pol_Z133 F_Z133 n args := rfl
theorem run_Z124 (n:Nat) (args:List Dv):run E (n + 1) n_Z124 args = qro E (mkR (run E n)) sg_Z124 pol_Z124 F_Z124 n args := rfl
theorem run_Z123 (n:Nat) (args:List Dv):run E (n + 1) n_Z123 args = qro E (mkR (run E n)) sg_Z123 pol_Z123 F_Z123 n args := rfl
theorem run_Z74 (n:Nat) (args:List Dv):run E (n + 1) n_Z74 args = qro E (mkR (run E n)) sg_Z74 pol_Z74 F_Z74 n args := rfl
theorem run_Z166 (n:Nat) (args:List Dv):run E (n + 1) n_Z166 args = qro E (mkR (run E n)) sg_Z166 pol_Z166 F_Z166 n args := rfl
theorem run_Z107 (n:Nat) (args:List Dv):run E (n + 1) n_Z107 args = qro E (mkR (run E n)) sg_Z107 pol_Z107 F_Z107 n args := rfl
theorem run_Z59 (n:Nat) (args:List Dv):run E (n + 1) n_Z59 args = qro E (mkR (run E n)) sg_Z59 pol_Z59 F_Z59 n args := rfl
theorem run_Z144 (n:Nat) (args:List Dv):run E (n + 1) n_Z144 args = qro E (mkR (run E n)) sg_Z144 pol_Z144 F_Z144 n args := rfl
theorem run_Z142 (n:Nat) (args:List Dv):run E (n + 1) n_Z142 args = qro E (mkR (run E n)) sg_Z142 pol_Z142 F_Z142 n args := rfl
theorem run_Z141 (n:Nat) (args:List Dv):run E (n + 1) n_Z141 args = qro E (mkR (run E n)) sg_Z141 pol_Z141 F_Z141 n args := rfl
theorem run_Z150 (n:Nat) (args:List Dv):run E (n + 1) n_Z150 args = qro E (mkR (run E n)) sg_Z150 pol_Z150 F_Z150 n args := rfl
theorem run_Z139 (n:Nat) (args:List Dv):run E (n + 1) n_Z139 args = qro E (mkR (run E n)) sg_Z139 pol_Z139 F_Z139 n args := rfl
theorem run_Z115 (n:Nat) (args:List Dv):run E (n + 1) n_Z115 args = qro E (mkR (run E n)) sg_Z115 pol_Z115 F_Z115 n args := rfl
theorem run_Z154 (n:Nat) (args:List Dv):run E (n + 1) n_Z154 args = qro E (mkR (run E n)) sg_Z154 pol_Z154 F_Z154 n args := rfl
theorem run_Z143 (n:Nat) (args:List Dv):run E (n + 1) n_Z143 args = qro E (mkR (run E n)) sg_Z143 pol_Z143 F_Z143 n args := rfl
theorem run_Z149 (n:Nat) (args:List Dv):run E (n + 1) n_Z149 args = qro E (mkR (run E n)) sg_Z149 pol_Z149 F_Z149 n args := rfl
theorem run_Z152 (n:Nat) (args:List Dv):run E (n + 1) n_Z152 args = qro E (mkR (run E n)) sg_Z152 pol_Z152 F_Z152 n args := rfl
theorem run_Z102 (n:Nat) (args:List Dv):run E (n + 1) n_Z102 args = qro E (mkR (run E n)) sg_Z102 pol_Z102 F_Z102 n args := rfl
theorem run_Z108 (n:Nat) (args:List Dv):run E (n + 1) n_Z108 args = qro E (mkR (run E n)) sg_Z108 pol_Z108 F_Z108 n args := rfl
theorem run_Z61 (n:Nat) (args:List Dv):run E (n + 1) n_Z61 args = qro E (mkR (run E n)) sg_Z61 pol_Z61 F_Z61 n args := rfl
theorem run_Z24 (n:Nat) (args:List Dv):run E (n + 1) n_Z24 args = qro E (mkR (run E n)) sg_Z24 pol_Z24 F_Z24 n args := rfl
theorem run_Z114 (n:Nat) (args:List Dv):run E (n + 1) n_Z114 args = qro E (mkR (run E n)) sg_Z114 pol_Z114 F_Z114 n args := rfl
theorem run_Z126 (n:Nat) (args:List Dv):run E (n + 1) n_Z126 args = qro E (mkR (run E n)) sg_Z126 pol_Z126 F_Z126 n args := rfl
theorem run_Z132 (n:Nat) (args:List Dv):run E (n + 1) n_Z132 args = qro E (mkR (run E n)) sg_Z132 pol_Z132 F_Z132 n args := rfl
theorem run_Z146 (n:Nat) (args:List Dv):run E (n + 1) n_Z146 args = qro E (mkR (run E n)) sg_Z146 pol_Z146 F_Z146 n args := rfl
theorem run_Z27 (n:Nat) (args:List Dv):run E (n + 1) n_Z27 args = qro E (mkR (run E n)) sg_Z27 pol_Z27 F_Z27 n args := rfl
theorem run_Z8 (n:Nat) (args:List Dv):run E (n + 1) n_Z8 args = qro E (mkR (run E n)) sg_Z8 pol_Z8 F_Z8 n args := rfl
theorem run_Z30 (n:Nat) (args:List Dv):run E (n + 1) n_Z30 args = qro E (mkR (run E n)) sg_Z30 pol_Z30 F_Z30 n args := rfl
theorem run_Z26 (n:Nat) (args:List Dv):run E (n + 1) n_Z26 args = qro E (mkR (run E n)) sg_Z26 pol_Z26 F_Z26 n args := rfl
theorem run_Z7 (n:Nat) (args:List Dv):run E (n + 1) n_Z7 args = qro E (mkR (run E n)) sg_Z7 pol_Z7 F_Z7 n args := rfl
theorem run_Z109 (n:Nat) (args:List Dv):run E (n + 1) n_Z109 args = qro E (mkR (run E n)) sg_Z109 pol_Z109 F_Z109 n args := rfl
theorem run_Z103 (n:Nat) (args:List Dv):run E (n + 1) n_Z103 args = qro E (mkR (run E n)) sg_Z103 pol_Z103 F_Z103 n args := rfl
theorem run_Z118 (n:Nat) (args:List Dv):run E (n + 1) n_Z118 args = qro E (mkR (run E n)) sg_Z118 pol_Z118 F_Z118 n args := rfl
theorem run_Z15 (n:Nat) (args:List Dv):run E (n + 1) n_Z15 args = qro E (mkR (run E n)) sg_Z15 pol_Z15 F_Z15 n args := rfl
theorem run_Z25 (n:Nat) (args:List Dv):run E (n + 1) n_Z25 args = qro E (mkR (run E n)) sg_Z25 pol_Z25 F_Z25 n args := rfl
theorem run_Z75 (n:Nat) (args:List Dv):run E (n + 1) n_Z75 args = qro E (mkR (run E n)) sg_Z75 pol_Z75 F_Z75 n args := rfl
theorem run_Z31 (n:Nat) (args:List Dv):run E (n + 1) n_Z31 args = qro E (mkR (run E n)) sg_Z31 pol_Z31 F_Z31 n args := rfl
theorem run_Z11 (n:Nat) (args:List Dv):run E (n + 1) n_Z11 args = qro E (mkR (run E n)) sg_Z11 pol_Z11 F_Z11 n args := rfl
theorem run_Z28 (n:Nat) (args:List Dv):run E (n + 1) n_Z28 args = qro E (mkR (run E n)) sg_Z28 pol_Z28 F_Z28 n args := rfl
theorem run_Z82 (n:Nat) (args:List Dv):run E (n + 1) n_Z82 args = qro E (mkR (run E n)) sg_Z82 pol_Z82 F_Z82 n args := rfl
theorem run_Z53 (n:Nat) (args:List Dv):run E (n + 1) n_Z53 args = qro E (mkR (run E n)) sg_Z53 pol_Z53 F_Z53 n args := rfl
theorem run_Z22 (n:Nat) (args:List Dv):run E (n + 1) n_Z22 args = qro E (mkR (run E n)) sg_Z22 pol_Z22 F_Z22 n args := rfl
theorem run_Z72 (n:Nat) (args:List Dv):run E (n + 1) n_Z72 args = qro E (mkR (run E n)) sg_Z72 pol_Z72 F_Z72 n args := rfl
theorem run_Z23 (n:Nat) (args:List Dv):run E (n + 1) n_Z23 args = qro E (mkR (run E n)) sg_Z23 pol_Z23 F_Z23 n args := rfl
theorem run_Z32 (n:Nat) (args:List Dv):run E (n + 1) n_Z32 args = qro E (mkR (run E n)) sg_Z32 pol_Z32 F_Z32 n args := rfl
theorem run_Z64 (n:Nat) (args:List Dv):run E (n + 1) n_Z64 args = qro E (mkR (run E n)) sg_Z64 pol_Z64 F_Z64 n args := rfl
theorem run_Z128 (n:Nat) (args:List Dv):run E (n + 1) n_Z128 args = qro E (mkR (run E n)) sg_Z128 pol_Z128 F_Z128 n args := rfl
theorem run_Z131 (n:Nat) (args:List Dv):run E (n + 1) n_Z131 args = qro E (mkR (run E n)) sg_Z131 pol_Z131 F_Z131 n args := rfl
theorem run_Z112 (n:Nat) (args:List Dv):run E (n + 1) n_Z112 args = qro E (mkR (run E n)) sg_Z112 pol_Z112 F_Z112 n args := rfl
theorem run_Z121 (n:Nat) (args:List Dv):run E (n + 1) n_Z121 args = qro E (mkR (run E n)) sg_Z121 pol_Z121 F_Z121 n args := rfl
theorem run_Z129 (n:Nat) (args:List Dv):run E (n + 1) n_Z129 args = qro E (mkR (run E n)) sg_Z129 pol_Z129 F_Z129 n args := rfl
theorem run_Z130 (n:Nat) (args:List Dv):run E (n + 1) n_Z130 args = qro E (mkR (run E n)) sg_Z130 pol_Z130 F_Z130 n args := rfl
theorem run_Z88 (n:Nat) (args:List Dv):run E (n + 1) n_Z88 args = qro E (mkR (run E n)) sg_Z88 pol_Z88 F_Z88 n args := rfl
theorem run_Z70 (n:Nat) (args:List Dv):run E (n + 1) n_Z70 args = qro E (mkR (run E n)) sg_Z70 pol_Z70 F_Z70 n args := rfl
theorem run_Z39 (n:Nat) (args:List Dv):run E (n + 1) n_Z39 args = qro E (mkR (run E n)) sg_Z39 pol_Z39 F_Z39 n args := rfl
theorem run_Z51 (n:Nat) (args:List Dv):run E (n + 1) n_Z51 args = qro E (mkR (run E n)) sg_Z51 pol_Z51 F_Z51 n args := rfl
theorem run_Z9 (n:Nat) (args:List Dv):run E (n + 1) n_Z9 args = qro E (mkR (run E n)) sg_Z9 pol_Z9 F_Z9 n args := rfl
theorem run_Z20 (n:Nat) (args:List Dv):run E (n + 1) n_Z20 args = qro E (mkR (run E n)) sg_Z20 pol_Z20 F_Z20 n args := rfl
theorem run_Z42 (n:Nat) (args:List Dv):run E (n + 1) n_Z42 args = qro E (mkR (run E n)) sg_Z42 pol_Z42 F_Z42 n args := rfl
theorem run_Z55 (n:Nat) (args:List Dv):run E (n + 1) n_Z55 args = qro E (mkR (run E n)) sg_Z55 pol_Z55 F_Z55 n args := rfl
theorem run_Z162 (n:Nat) (args:List Dv):run E (n + 1) n_Z162 args = qro E (mkR (run E n)) sg_Z162 pol_Z162 F_Z162 n args := rfl
theorem run_Z136 (n:Nat) (args:List Dv):run E (n + 1) n_Z136 args = qro E (mkR (run E n)) sg_Z136 pol_Z136 F_Z136 n args := rfl
theorem run_Z165 (n:Nat) (args:List Dv):run E (n + 1) n_Z165 args = qro E (mkR (run E n)) sg_Z165 pol_Z165 F_Z165 n args := rfl
theorem run_Z153 (n:Nat) (args:List Dv):run E (n + 1) n_Z153 args = qro E (mkR (run E n)) sg_Z153 pol_Z153 F_Z153 n args := rfl
theorem run_Z106 (n:Nat) (args:List Dv):run E (n + 1) n_Z106 args = qro E (mkR (run E n)) sg_Z106 pol_Z106 F_Z106 n args := rfl
theorem run_Z157 (n:Nat) (args:List Dv):run E (n + 1) n_Z157 args = qro E (mkR (run E n)) sg_Z157 pol_Z157 F_Z157 n args := rfl
theorem run_Z127 (n:Nat) (args:List Dv):run E (n + 1) n_Z127 args = qro E (mkR (run E n)) sg_Z127 pol_Z127 F_Z127 n args := rfl
theorem run_Z167 (n:Nat) (args:List Dv):run E (n + 1) n_Z167 args = qro E (mkR (run E n)) sg_Z167 pol_Z167 F_Z167 n args := rfl
theorem run_Z168 (n:Nat) (args:List Dv):run E (n + 1) n_Z168 args = qro E (mkR (run E n)) sg_Z168 pol_Z168 F_Z168 n args := rfl
theorem run_Z169 (n:Nat) (args:List Dv):run E (n + 1) n_Z169 args = qro E (mkR (run E n)) sg_Z169 pol_Z169 F_Z169 n args := rfl
theorem run_Z105 (n:Nat) (args:List Dv):run E (n + 1) n_Z105 args = qro E (mkR (run E n)) sg_Z105 pol_Z105 F_Z105 n args := rfl
theorem run_Z120 (n:Nat) (args:List Dv):run E (n + 1) n_Z120 args = qro E (mkR (run E n)) sg_Z120 pol_Z120 F_Z120 n args := rfl
theorem run_Z111 (n:Nat) (args:List Dv):run E (n + 1) n_Z111 args = qro E (mkR (run E n)) sg_Z111 pol_Z111 F_Z111 n args := rfl
theorem sig_slices_Grow_Sint64_int64_eq:E.sig n_Z84 = some sg_Z84 := rfl
theorem run_Z125 (n:Nat) (args:List Dv):run E (n + 1) n_Z125 args = qro E (mkR (run E n)) sg_Z125 pol_Z125 F_Z125 n args := rfl
theorem run_Z147 (n:Nat) (args:List Dv):run E (n + 1) n_Z147 args = qro E (mkR (run E n)) sg_Z147 pol_Z147 F_Z147 n args := rfl
theorem run_Z97 (n:Nat) (args:List Dv):run E (n + 1) n_Z97 args = qro E (mkR (run E n)) sg_Z97 pol_Z97 F_Z97 n args := rfl
theorem run_Z18 (n:Nat) (args:List Dv):run E (n + 1) n_Z18 args = qro E (mkR (run E n)) sg_Z18 pol_Z18 F_Z18 n args := rfl
theorem run_Z62 (n:Nat) (args:List Dv):run E (n + 1) n_Z62 args = qro E (mkR (run E n)) sg_Z62 pol_Z62 F_Z62 n args := rfl
theorem run_Z36 (n:Nat) (args:List Dv):run E (n + 1) n_Z36 args = qro E (mkR (run E n)) sg_Z36 pol_Z36 F_Z36 n args := rfl
theorem run_Z122 (n:Nat) (args:List Dv):run E (n + 1) n_Z122 args = qro E (mkR (run E n)) sg_Z122 pol_Z122 F_Z122 n args := rfl
theorem run_Z101 (n:Nat) (args:List Dv):run E (n + 1) n_Z101 args = qro E (mkR (run E n)) sg_Z101 pol_Z101 F_Z101 n args := rfl
theorem run_Z119 (n:Nat) (args:List Dv):run E (n + 1) n_Z119 args = qro E (mkR (run E n)) sg_Z119 pol_Z119 F_Z119 n args := rfl
theorem run_Z43 (n:Nat) (args:List Dv):run E (n + 1) n_Z43 args = qro E (mkR (run E n)) sg_Z43 pol_Z43 F_Z43 n args := rfl
theorem run_Z16 (n:Nat) (args:List Dv):run E (n + 1) n_Z16 args = qro E (mkR (run E n)) sg_Z16 pol_Z16 F_Z16 n args := rfl
theorem run_Z45 (n:Nat) (args:List Dv):run E (n + 1) n_Z45 args = qro E (mkR (run E n)) sg_Z45 pol_Z45 F_Z45 n args := rfl
theorem run_Z2 (n:Nat) (args:List Dv):run E (n + 1) n_Z2 args = qro E (mkR (run E n)) sg_Z2 pol_Z2 F_Z2 n args := rfl
theorem run_Z0 (n:Nat) (args:List Dv):run E (n + 1) n_Z0 args = qro E (mkR (run E n)) sg_Z0 pol_Z0 F_Z0 n args := rfl
theorem run_Z73 (n:Nat) (args:List Dv):run E (n + 1) n_Z73 args = qro E (mkR (run E n)) sg_Z73 pol_Z73 F_Z73 n args := rfl
theorem run_Z85 (n:Nat) (args:List Dv):run E (n + 1) n_Z85 args = qro E (mkR (run E n)) sg_Z85 pol_Z85 F_Z85 n args := rfl
theorem run_Z29 (n:Nat) (args:List Dv):run E (n + 1) n_Z29 args = qro E (mkR (run E n)) sg_Z29 pol_Z29 F_Z29 n args := rfl
theorem run_Z38 (n:Nat) (args:List Dv):run E (n + 1) n_Z38 args = qro E (mkR (run E n)) sg_Z38 pol_Z38 F_Z38 n args := rfl
theorem run_Z137 (n:Nat) (args:List Dv):run E (n + 1) n_Z137 args = qro E (mkR (run E n)) sg_Z137 pol_Z137 F_Z137 n args := rfl
theorem run_Z104 (n:Nat) (args:List Dv):run E (n + 1) n_Z104 args = qro E (mkR (run E n)) sg_Z104 pol_Z104 F_Z104 n args := rfl
theorem run_Z12 (n:Nat) (args:List Dv):run E (n + 1) n_Z12 args = qro E (mkR (run E n)) sg_Z12 pol_Z12 F_Z12 n args := rfl
theorem run_Z52 (n:Nat) (args:List Dv):run E (n + 1) n_Z52 args = qro E (mkR (run E n)) sg_Z52 pol_Z52 F_Z52 n args := rfl
theorem run_Z156 (n:Nat) (args:List Dv):run E (n + 1) n_Z156 args = qro E (mkR (run E n)) sg_Z156 pol_Z156 F_Z156 n args := rfl
theorem run_Z117 (n:Nat) (args:List Dv):run E (n + 1) n_Z117 args = qro E (mkR (run E n)) sg_Z117 pol_Z117 F_Z117 n args := rfl
theorem run_Z19 (n:Nat) (args:List Dv):run E (n + 1) n_Z19 args = qro E (mkR (run E n)) sg_Z19 pol_Z19 F_Z19 n args := rfl
theorem run_Z40 (n:Nat) (args:List Dv):run E (n + 1) n_Z40 args = qro E (mkR (run E n)) sg_Z40 pol_Z40 F_Z40 n args := rfl
theorem run_Z116 (n:Nat) (args:List Dv):run E (n + 1) n_Z116 args = qro E (mkR (run E n)) sg_Z116 pol_Z116 F_Z116 n args := rfl
theorem run_Z3 (n:Nat) (args:List Dv):run E (n + 1) n_Z3 args = qro E (mkR (run E n)) sg_Z3 pol_Z3 F_Z3 n args := rfl
theorem run_Z1 (n:Nat) (args:List Dv):run E (n + 1) n_Z1 args = qro E (mkR (run E n)) sg_Z1 pol_Z1 F_Z1 n args := rfl
theorem run_Z50 (n:Nat) (args:List Dv):run E (n + 1) n_Z50 args = qro E (mkR (run E n)) sg_Z50 pol_Z50 F_Z50 n args := rfl
theorem run_Z44 (n:Nat) (args:List Dv):run E (n + 1) n_Z44 args = qro E (mkR (run E n)) sg_Z44 pol_Z44 F_Z44 n args := rfl
theorem run_Z4 (n:Nat) (args:List Dv):run E (n + 1) n_Z4 args = qro E (mkR (run E n)) sg_Z4 pol_Z4 F_Z4 n args := rfl
abbrev eC (R:Run) (q:Pol) (N:Nat) (l:List Nat) (F:Func) := qb2 E R q N (sub l (bodyOf F))
abbrev kB (R:Run) (q:Pol) (k:Nat) (K:Kt) := qr0 (qgQ R q.blkM k) k K
abbrev kS (R:Run) (q:Pol) (k N:Nat) (l:List Nat) (F:Func) (K:Kt) := qrS (qgQ R q.seqM k) (qb2 E R q N (sub l (bodyOf F))) K
abbrev kL (R:Run) (q:Pol) (k N:Nat) (l:List Nat) (F:Func) (n:Nat) (K:Kt) := qrZ (qb2 E R q N (sub l (bodyOf F))) (qgQ R q.loopM k) n K
abbrev lC (R:Run) (q:Pol) (k N:Nat) (l:List Nat) (F:Func) (n:Nat) (s:Ve.St) (K:Kt) := qnP (qb2 E R q N (sub l (bodyOf F))) (qgQ R q.loopM k) n s K
end
end VeT

open Go Go.Proofs Ve
set_option maxRecDepth 100000
namespace VeT
noncomputable section
abbrev q0_0 (R:Run) (N:Nat):=kS R pol_Z104 11 N [1,1,1,1] F_Z104
abbrev q0_1 (R:Run) (N:Nat):=kS R pol_Z122 31 N [1,1,1,1,1,1,1,0,1,0,0,1,0,0,1,1,1,1,1,1,1,1,0,1,0,0,1,1] F_Z122
abbrev q0_2 (R:Run) (N:Nat):=kS R pol_Z122 38 N [1,1,1,1,1,1,1,0,1,0,0,1,0,0,1,1,1,1,1,1,1,1,1] F_Z122
abbrev q0_3 (R:Run) (N:Nat):=kS R pol_Z122 9 N [1,1,1,1,1,1,1,0,1,0,0,1,1] F_Z122
abbrev q0_4 (R:Run) (N:Nat):=kS R pol_Z122 40 N [1,1,1,1,1,1,1,1] F_Z122
abbrev q0_5 (R:Run) (N:Nat):=kS R pol_Z122 13 N [1,1,1,1,1,1,1,0,1,0,0,1,0,0,1,1] F_Z122
abbrev q0_6 (R:Run) (N:Nat):=kL R pol_Z122 30 N [1,1,1,1,1,1,1,0,1,0,0,1,0,0,1,1,1,1,1,1,1,1,0,1,0,0] F_Z122
abbrev q0_7 (R:Run) (N:Nat):=kL R pol_Z122 8 N [1,1,1,1,1,1,1,0,1,0,0] F_Z122
abbrev q0_8 (R:Run):=kB R pol_Z122 1
abbrev q0_9 (R:Run):=kB R pol_Z122 0
theorem Z68.ev (R:Run) (N:Nat) (a0:(List Int)):qro E R sg_Z68 pol_Z68 F_Z68 N [⟨(.sl (.int .u8)),a0⟩] = some ⟨o_Z68,((decide ((List.length a0:Int) > (1048576:Int))),())⟩ := by kernel_rfl
theorem Z100.ev (R:Run) (N:Nat) (a0:(List Int)):qro E R sg_Z100 pol_Z100 F_Z100 N [⟨(.sl (.int .u8)),a0⟩] = some ⟨o_Z100,((a0,(0:Int),(0:Int),()),())⟩ := by kernel_rfl
def Z108.j0 (R:Run) (N:Nat) (a:Int) (b:(List Int)) (e f:Int):Option Dv := R.w (some ⟨(.c (.box 62 0)::(V.dead::(V.dead::(.c (.d yI a)::(zd 58 []))))),(zo 62 (some (.box [.d (.sl (.int .u8)) b,.d yI e,.d (.int .u64) f] false true)::[]))⟩) fun st => eC R pol_Z108 N [1,1,1] F_Z108 st (qrY E sg_Z108 F_Z108)
theorem Z108.j0_eq (R:Run) (hw:R.ok) (N:Nat) (a:Int) (b:(List Int)) (c d:Int):Z108.j0 R N a b c d = (bif (decide ((w64 (c + (1:Int))) ≤ (List.length b:Int))) then some ⟨o_Z108,(a,(b,(w64 (c + (1:Int))),(IntKind.wrap .u64 ((IntKind.wrap .u64 ((IntKind.wrap .u64 (d * (6364136223846793005:Int))) + (IntKind.wrap .u64 (a)))) + (1442695040888963407:Int))),()),())⟩ else ((chk (decide (0 ≤ (40:Int)))).bind fun _ => some ⟨o_Z108,((w64 ((IntKind.wrap .u64 (BitVec.toNat (BitVec.ofInt (IntKind.bits .u64) (Int.fdiv (IntKind.wrap .u64 ((IntKind.wrap .u64 ((IntKind.wrap .u64 (d * (6364136223846793005:Int))) + (IntKind.wrap .u64 (a)))) + (1442695040888963407:Int))) (2 ^ (min (Int.toNat (40:Int)) (IntKind.bits .u64)))) &&& BitVec.ofInt (IntKind.bits .u64) (255:Int)))))),(b,(w64 (c + (1:Int))),(IntKind.wrap .u64 ((IntKind.wrap .u64 ((IntKind.wrap .u64 (d * (6364136223846793005:Int))) + (IntKind.wrap .u64 (a)))) + (1442695040888963407:Int))),()),())⟩)) := (hw _ _).trans (by kernel_rfl)
theorem Z108.ev (R:Run) (N:Nat) (a0:((List Int) × Int × Int × Unit)):qro E R sg_Z108 pol_Z108 F_Z108 N [⟨(.ptr (.cons (.sl (.int .u8)) (.cons yI (.cons (.int .u64) .nil)))),a0⟩] = (bif (decide (a0.2.1 < (List.length a0.1:Int))) then ((idx? a0.1 a0.2.1).bind fun y1 => (Z108.j0 R N (w64 ((y1,()).1)) a0.1 a0.2.1 a0.2.2.1)) else (Z108.j0 R N (0:Int) a0.1 a0.2.1 a0.2.2.1)) := by kernel_rfl
theorem Z110.ev (R:Run) (N:Nat) (a0:((List Int) × Int × Int × Unit)) (a1:Int):qro E R sg_Z110 pol_Z110 F_Z110 N [⟨(.ptr (.cons (.sl (.int .u8)) (.cons yI (.cons (.int .u64) .nil)))),a0⟩,⟨yI,a1⟩] = (bif (decide (a1 ≤ (1:Int))) then some ⟨o_Z110,((0:Int),(a0.1,a0.2.1,a0.2.2.1,()),())⟩ else ((qlR R n_Z108 o_Z108 [⟨(.ptr (.cons (.sl (.int .u8)) (.cons yI (.cons (.int .u64) .nil)))),(a0.1,a0.2.1,a0.2.2.1,())⟩]).bind fun r1 => (bif (decide (a1 > (200:Int))) then ((qlR R n_Z108 o_Z108 [⟨(.ptr (.cons (.sl (.int .u8)) (.cons yI (.cons (.int .u64) .nil)))),(r1.2.1.1,r1.2.1.2.1,r1.2.1.2.2.1,())⟩]).bind fun r2 => ((chk (a1 != 0)).bind fun _ => some ⟨o_Z110,((Int.tmod (w64 ((w64 (r1.1 * (256:Int))) + r2.1)) a1),(r2.2.1.1,r2.2.1.2.1,r2.2.1.2.2.1,()),())⟩)) else ((chk (a1 != 0)).bind fun _ => some ⟨o_Z110,((Int.tmod r1.1 a1),(r1.2.1.1,r1.2.1.2.1,r1.2.1.2.2.1,()),())⟩)))) := by kernel_rfl
def Z106.l0 (R:Run) (N n:Nat) (a b:(List Int)) (e:Int):Option Dv := R.w (some ⟨(.c (.d yL a)::(.c (.d yL b)::(zd 3 (.c (.d yI e)::(zd 20 []))))),(zo 28 [])⟩) fun st => lC R pol_Z106 4 N [1,1,0,1,0,0] F_Z106 n st (kB R pol_Z106 0 (kS R pol_Z106 8 N [1,1,1] F_Z106 (qrY E sg_Z106 F_Z106)))
theorem Z106.l0_succ (R:Run) (hw:R.ok) (N n:Nat) (a b:(List Int)) (c:Int):Z106.l0 R N (n + 1) a b c = (bif (decide (c < (List.length a:Int))) then ((idx? a c).bind fun y4 => ((idx? b c).bind fun y5 => (bif ((y4,()).1 != (y5,()).1) then some ⟨o_Z106,(false,())⟩ else (Z106.l0 R N n a b (w64 (c + (1:Int))))))) else some ⟨o_Z106,(true,())⟩) := (hw _ _).trans (by kernel_rfl)
theorem Z106.ev (R:Run) (N:Nat) (a0 a1:(List Int)):qro E R sg_Z106 pol_Z106 F_Z106 N [⟨yL,a0⟩,⟨yL,a1⟩] = (bif ((List.length a0:Int) != (List.length a1:Int)) then some ⟨o_Z106,(false,())⟩ else (Z106.l0 R N N a0 a1 (0:Int))) := by kernel_rfl
def Z133.l0 (R:Run) (N n:Nat) (a:(vK × Unit)) (b:(List Int)) (e:Int):Option Dv := R.w (some ⟨(.c (.ip (.cons yK .nil) a 0)::(.c (.d yL b)::(zd 3 (.c (.d yI e)::(zd 19 []))))),(zo 27 [])⟩) fun st => lC R pol_Z133 2 N [1,0,1,0,0] F_Z133 n st (kB R pol_Z133 0 (kS R pol_Z133 6 N [1,1] F_Z133 (qrY E sg_Z133 F_Z133)))
theorem Z133.l0_succ (R:Run) (hw:R.ok) (N n:Nat) (a:(vK × Unit)) (b:(List Int)) (c:Int):Z133.l0 R N (n + 1) a b c = (bif (decide (c < (List.length a.1:Int))) then ((idx? a.1 c).bind fun y4 => ((qlR R n_Z106 o_Z106 [⟨yL,(y4,()).1⟩,⟨yL,b⟩]).bind fun r5 => (bif r5.1 then some ⟨o_Z133,(c,())⟩ else (Z133.l0 R N n a b (w64 (c + (1:Int))))))) else some ⟨o_Z133,((-1:Int),())⟩) := (hw _ _).trans (by kernel_rfl)
theorem Z133.ev (R:Run) (N:Nat) (a0:(vK × Unit)) (a1:(List Int)):qro E R sg_Z133 pol_Z133 F_Z133 N [⟨(.ptr (.cons yK .nil)),a0⟩,⟨yL,a1⟩] = (Z133.l0 R N N a0 a1 (0:Int)) := by kernel_rfl
theorem Z103.ev (R:Run) (N:Nat) (a0:(List Int)):qro E R sg_Z103 pol_Z103 F_Z103 N [⟨yL,a0⟩] = ((chk (decide ((List.length ([]:List Int) + List.length a0) * 8 ≤ 70368744177664))).bind fun _ => some ⟨o_Z103,((([]:List Int) ++ a0),())⟩) := by kernel_rfl
theorem Z131.ev (R:Run) (N:Nat) (a0:(List Int)) (a1:Int):qro E R sg_Z131 pol_Z131 F_Z131 N [⟨yL,a0⟩,⟨yI,a1⟩] = ((chk (decide (0 ≤ a1) && decide (a1 ≤ (List.length a0:Int)))).bind fun _ => ((qlR R n_Z103 o_Z103 [⟨yL,(List.take (Int.toNat a1) a0)⟩]).bind fun r1 => ((chk (decide (0 ≤ (w64 (a1 + (1:Int)))) && decide ((w64 (a1 + (1:Int))) ≤ (List.length a0:Int)))).bind fun _ => ((chk (decide ((List.length r1.1 + List.length (List.drop (Int.toNat (w64 (a1 + (1:Int)))) a0)) * 8 ≤ 70368744177664))).bind fun _ => some ⟨o_Z131,((r1.1 ++ (List.drop (Int.toNat (w64 (a1 + (1:Int)))) a0)),())⟩)))) := by kernel_rfl
def Z128.l0 (R:Run) (N n:Nat) (a b:(List Int)) (e:Int):Option Dv := R.w (some ⟨(.c (.d yL a)::(.c (.d yL b)::(zd 3 (.c (.d yI e)::(zd 34 []))))),(zo 42 [])⟩) fun st => lC R pol_Z128 4 N [1,1,0,1,0,0] F_Z128 n st (kB R pol_Z128 0 (kS R pol_Z128 8 N [1,1,1] F_Z128 (qrY E sg_Z128 F_Z128)))
theorem Z128.l0_succ (R:Run) (hw:R.ok) (N n:Nat) (a b:(List Int)) (c:Int):Z128.l0 R N (n + 1) a b c = (bif (decide (c < (List.length a:Int))) then ((idx? a c).bind fun y4 => ((idx? b c).bind fun y5 => (bif ((y4,()).1 != (y5,()).1) then ((idx? a c).bind fun y6 => ((idx? b c).bind fun y7 => some ⟨o_Z128,((decide ((y6,()).1 < (y7,()).1)),())⟩)) else (Z128.l0 R N n a b (w64 (c + (1:Int))))))) else some ⟨o_Z128,(false,())⟩) := (hw _ _).trans (by kernel_rfl)
theorem Z128.ev (R:Run) (N:Nat) (a0 a1:(List Int)):qro E R sg_Z128 pol_Z128 F_Z128 N [⟨yL,a0⟩,⟨yL,a1⟩] = (bif ((List.length a0:Int) != (List.length a1:Int)) then some ⟨o_Z128,((decide ((List.length a0:Int) < (List.length a1:Int))),())⟩ else (Z128.l0 R N N a0 a1 (0:Int))) := by kernel_rfl
def Z137.j3 (R:Run) (N a:Nat) (b:(List Int)) (e:Int) (f:Bool) (g:vK):Option Dv := R.w (some ⟨(.c (.box 71 0)::(.c (.d yL b)::(zd 3 (.c (.d yI e)::(zd 38 (.c (.d .bool f)::(zd 26 []))))))),(zo 71 (some (.box [.d yK g] false true)::(none::(none::[]))))⟩) fun st => eC R pol_Z137 N [1,1,1,0,0,0,0,1] F_Z137 st (kS R pol_Z137 7 N [1,1,1,0,0,0,1] F_Z137 (kL R pol_Z137 6 N [1,1,1,0,0,0] F_Z137 a (kB R pol_Z137 2 (kS R pol_Z137 8 N [1,1,1,1] F_Z137 (qrY E sg_Z137 F_Z137)))))
def Z137.l2 (R:Run) (N n:Nat) (a:(List Int)) (b:Int) (e:vK):Option Dv := R.w (some ⟨(.c (.box 71 0)::(.c (.d yL a)::(zd 3 (.c (.d yI b)::(zd 65 []))))),(zo 71 (some (.box [.d yK e] false true)::(none::(none::[]))))⟩) fun st => lC R pol_Z137 6 N [1,1,1,0,0,0] F_Z137 n st (kB R pol_Z137 2 (kS R pol_Z137 8 N [1,1,1,1] F_Z137 (qrY E sg_Z137 F_Z137)))
def Z137.j1 (R:Run) (N a:Nat) (b:(List Int)) (e:Int) (f:Bool) (g:vK):Option Dv := R.w (some ⟨(.c (.box 71 0)::(.c (.d yL b)::(V.dead::(V.dead::(.c (.d yI e)::(zd 14 (.c (.d .bool f)::(zd 51 [])))))))),(zo 71 (some (.box [.d yK g] false true)::(none::(none::[]))))⟩) fun st => eC R pol_Z137 N [1,0,1,0,0,0,1] F_Z137 st (kS R pol_Z137 4 N [1,0,1,0,0,1] F_Z137 (kL R pol_Z137 2 N [1,0,1,0,0] F_Z137 a (kB R pol_Z137 0 (kS R pol_Z137 5 N [1,1] F_Z137 (qrY E sg_Z137 F_Z137)))))
def Z137.l0 (R:Run) (N n:Nat) (a:(List Int)) (b:Int) (e:vK):Option Dv := R.w (some ⟨(.c (.box 71 0)::(.c (.d yL a)::(V.dead::(V.dead::(.c (.d yI b)::(zd 66 [])))))),(zo 71 (some (.box [.d yK e] false true)::(none::(none::[]))))⟩) fun st => lC R pol_Z137 2 N [1,0,1,0,0] F_Z137 n st (kB R pol_Z137 0 (kS R pol_Z137 5 N [1,1] F_Z137 (qrY E sg_Z137 F_Z137)))
theorem Z137.j3_eq (R:Run) (hw:R.ok) (N a:Nat) (b:(List Int)) (c:Int) (d:Bool) (e:vK):Z137.j3 R N a b c d e = (bif d then (Z137.l2 R N a b (w64 (c + (1:Int))) e) else ((chk (decide (0 ≤ c) && decide (c ≤ (List.length e:Int)))).bind fun _ => ((chk (decide ((List.length ([]:List (List Int)) + List.length (List.take (Int.toNat c) e)) * 24 ≤ 70368744177664))).bind fun _ => ((qlR R n_Z103 o_Z103 [⟨yL,b⟩]).bind fun r26 => ((chk (decide ((List.length (([]:List (List Int)) ++ (List.take (Int.toNat c) e)) + List.length [r26.1]) * 24 ≤ 70368744177664))).bind fun _ => ((chk (decide (0 ≤ c) && decide (c ≤ (List.length e:Int)))).bind fun _ => ((chk (decide ((List.length ((([]:List (List Int)) ++ (List.take (Int.toNat c) e)) ++ [r26.1]) + List.length (List.drop (Int.toNat c) e)) * 24 ≤ 70368744177664))).bind fun _ => some ⟨o_Z137,(((((([]:List (List Int)) ++ (List.take (Int.toNat c) e)) ++ [r26.1]) ++ (List.drop (Int.toNat c) e)),()),())⟩))))))) := (hw _ _).trans (by kernel_rfl)
theorem Z137.l2_succ (R:Run) (hw:R.ok) (N n:Nat) (a:(List Int)) (b:Int) (c:vK):Z137.l2 R N (n + 1) a b c = (bif (decide (b < (List.length c:Int))) then ((idx? c b).bind fun y17 => ((qlR R n_Z128 o_Z128 [⟨yL,(y17,()).1⟩,⟨yL,a⟩]).bind fun r18 => (Z137.j3 R N n a b r18.1 c))) else (Z137.j3 R N n a b false c)) := (hw _ _).trans (by kernel_rfl)
theorem Z137.j1_eq (R:Run) (hw:R.ok) (N a:Nat) (b:(List Int)) (c:Int) (d:Bool) (e:vK):Z137.j1 R N a b c d e = (bif d then ((qlR R n_Z131 o_Z131 [⟨yL,b⟩,⟨yI,c⟩]).bind fun r9 => ((qlR R n_Z137 o_Z137 [⟨(.ptr (.cons yK .nil)),(e,())⟩,⟨yL,r9.1⟩]).bind fun r10 => (Z137.l0 R N a b (w64 (c + (1:Int))) r10.1.1))) else (Z137.l2 R N N b (0:Int) e)) := (hw _ _).trans (by kernel_rfl)
theorem Z137.l0_succ (R:Run) (hw:R.ok) (N n:Nat) (a:(List Int)) (b:Int) (c:vK):Z137.l0 R N (n + 1) a b c = (bif (decide (b < (List.length a:Int))) then (Z137.j1 R N n a b (decide ((List.length a:Int) > (1:Int))) c) else (Z137.j1 R N n a b false c)) := (hw _ _).trans (by kernel_rfl)
theorem Z137.ev (R:Run) (N:Nat) (a0:(vK × Unit)) (a1:(List Int)):qro E R sg_Z137 pol_Z137 F_Z137 N [⟨(.ptr (.cons yK .nil)),a0⟩,⟨yL,a1⟩] = ((qlR R n_Z133 o_Z133 [⟨(.ptr (.cons yK .nil)),(a0.1,())⟩,⟨yL,a1⟩]).bind fun r1 => (bif (decide (r1.1 ≥ (0:Int))) then some ⟨o_Z137,((a0.1,()),())⟩ else (Z137.l0 R N N a1 (0:Int) a0.1))) := by kernel_rfl
def Z129.l0 (R:Run) (N n:Nat) (a:vK) (b:Int) (e:vK):Option Dv := R.w (some ⟨(.c (.d yK a)::(V.dead::(.c (.box 2 0)::(.c (.box 3 0)::(.c (.d yI b)::(zd 14 [])))))),(none::(none::(some (.box [.nils yL] false false)::(some (.box [.d yK e] false false)::(zo 16 [])))))⟩) fun st => lC R pol_Z129 3 N [1,1,0,1,0,0] F_Z129 n st (kB R pol_Z129 0 (kS R pol_Z129 6 N [1,1,1] F_Z129 (qrY E sg_Z129 F_Z129)))
theorem Z129.l0_succ (R:Run) (hw:R.ok) (N n:Nat) (a:vK) (b:Int) (c:vK):Z129.l0 R N (n + 1) a b c = (bif (decide (b < (List.length a:Int))) then ((idx? a b).bind fun y4 => ((qlR R n_Z137 o_Z137 [⟨(.ptr (.cons yK .nil)),(c,())⟩,⟨yL,(y4,()).1⟩]).bind fun r5 => (Z129.l0 R N n a (w64 (b + (1:Int))) r5.1.1))) else some ⟨o_Z129,(c,())⟩) := (hw _ _).trans (by kernel_rfl)
theorem Z129.ev (R:Run) (N:Nat) (a0:vK):qro E R sg_Z129 pol_Z129 F_Z129 N [⟨yK,a0⟩] = (Z129.l0 R N N a0 (0:Int) ([]:List (List Int))) := by kernel_rfl
def Z104.j2 (R:Run) (N a:Nat) (b:(List Int)) (e:Int) (f:Bool) (g:Int) (h:(List Int)):Option Dv := R.w (some ⟨(.c (.d yL b)::(.c (.d yI e)::(zd 3 (.c (.arr 8)::(.c (.d .bool f)::(.c (.d yI g)::(zd 41 []))))))),(zo 8 (some (.arr yI h true false false)::(zo 42 [])))⟩) fun st => eC R pol_Z104 N [1,1,1,0,1,0,0,1,0,0,1] F_Z104 st (kB R pol_Z104 1 (kS R pol_Z104 5 N [1,1,1,0,1,0,0,1,1] F_Z104 (kL R pol_Z104 4 N [1,1,1,0,1,0,0] F_Z104 a (kB R pol_Z104 0 (q0_0 R N (qrY E sg_Z104 F_Z104))))))
def Z104.j1 (R:Run) (N a:Nat) (b:(List Int)) (e:Int) (f:Bool) (g:Int) (h:Bool) (i:(List Int)):Option Dv := R.w (some ⟨(.c (.d yL b)::(.c (.d yI e)::(zd 3 (.c (.arr 8)::(.c (.d .bool f)::(.c (.d yI g)::(zd 16 (.c (.d .bool h)::(zd 24 []))))))))),(zo 8 (some (.arr yI i true false false)::(zo 42 [])))⟩) fun st => eC R pol_Z104 N [1,1,1,0,1,0,0,1,0,0,0,1] F_Z104 st (kS R pol_Z104 10 N [1,1,1,0,1,0,0,1,0,0,1] F_Z104 (kB R pol_Z104 1 (kS R pol_Z104 5 N [1,1,1,0,1,0,0,1,1] F_Z104 (kL R pol_Z104 4 N [1,1,1,0,1,0,0] F_Z104 a (kB R pol_Z104 0 (q0_0 R N (qrY E sg_Z104 F_Z104)))))))
def Z104.l0 (R:Run) (N n:Nat) (a:(List Int)) (b:Int) (e:Bool) (f:Int) (g:(List Int)):Option Dv := R.w (some ⟨(.c (.d yL a)::(.c (.d yI b)::(zd 3 (.c (.arr 8)::(.c (.d .bool e)::(.c (.d yI f)::(zd 41 []))))))),(zo 8 (some (.arr yI g true false false)::(zo 42 [])))⟩) fun st => lC R pol_Z104 4 N [1,1,1,0,1,0,0] F_Z104 n st (kB R pol_Z104 0 (q0_0 R N (qrY E sg_Z104 F_Z104)))
theorem Z104.j2_eq (R:Run) (hw:R.ok) (N a:Nat) (b:(List Int)) (c:Int) (d:Bool) (e:Int) (f:(List Int)):Z104.j2 R N a b c d e f = ((idx? b e).bind fun y19 => ((chk (decide ((List.length f + List.length [(y19,()).1]) * 8 ≤ 70368744177664))).bind fun _ => (Z104.l0 R N a b c d (w64 (e + (1:Int))) (f ++ [(y19,()).1])))) := (hw _ _).trans (by kernel_rfl)
theorem Z104.j1_eq (R:Run) (hw:R.ok) (N a:Nat) (b:(List Int)) (c:Int) (d:Bool) (e:Int) (f:Bool) (g:(List Int)):Z104.j1 R N a b c d e f g = (bif f then ((idx? b e).bind fun y13 => (bif (decide ((y13,()).1 > c)) then ((chk (decide ((List.length g + List.length [c]) * 8 ≤ 70368744177664))).bind fun _ => (Z104.j2 R N a b c true e (g ++ [c]))) else (Z104.j2 R N a b c true e g))) else (Z104.j2 R N a b c d e g)) := (hw _ _).trans (by kernel_rfl)
theorem Z104.l0_succ (R:Run) (hw:R.ok) (N n:Nat) (a:(List Int)) (b:Int) (c:Bool) (d:Int) (e:(List Int)):Z104.l0 R N (n + 1) a b c d e = (bif (decide (d < (List.length a:Int))) then (bif (!c) then ((idx? a d).bind fun y6 => (Z104.j1 R N n a b c d (decide ((y6,()).1 ≥ b)) e)) else (Z104.j1 R N n a b c d false e)) else (bif (!c) then ((chk (decide ((List.length e + List.length [b]) * 8 ≤ 70368744177664))).bind fun _ => some ⟨o_Z104,((e ++ [b]),())⟩) else some ⟨o_Z104,(e,())⟩)) := (hw _ _).trans (by kernel_rfl)
theorem Z104.ev (R:Run) (N:Nat) (a0:(List Int)) (a1:Int):qro E R sg_Z104 pol_Z104 F_Z104 N [⟨yL,a0⟩,⟨yI,a1⟩] = (Z104.l0 R N N a0 a1 false (0:Int) ([]:List Int)) := by kernel_rfl
def Z130.l0 (R:Run) (N n:Nat) (a:Int) (b:(List Int)) (e:Int) (f:(List Int)) (g h:Int):Option Dv := R.w (some ⟨(.c (.box 24 0)::(.c (.d yI a)::(zd 5 (.c (.d yL b)::(.c (.d yI e)::(zd 15 [])))))),(zo 24 (some (.box [.d (.sl (.int .u8)) f,.d yI g,.d (.int .u64) h] false true)::(none::(none::[]))))⟩) fun st => lC R pol_Z130 3 N [1,1,0,1,0,0] F_Z130 n st (kB R pol_Z130 0 (kS R pol_Z130 6 N [1,1,1] F_Z130 (qrY E sg_Z130 F_Z130)))
theorem Z130.l0_succ (R:Run) (hw:R.ok) (N n:Nat) (a:Int) (b:(List Int)) (c:Int) (d:(List Int)) (e f:Int):Z130.l0 R N (n + 1) a b c d e f = (bif (decide (c > (0:Int))) then ((qlR R n_Z110 o_Z110 [⟨(.ptr (.cons (.sl (.int .u8)) (.cons yI (.cons (.int .u64) .nil)))),(d,e,f,())⟩,⟨yI,a⟩]).bind fun r8 => ((qlR R n_Z104 o_Z104 [⟨yL,b⟩,⟨yI,r8.1⟩]).bind fun r9 => (Z130.l0 R N n a r9.1 (w64 (c - (1:Int))) r8.2.1.1 r8.2.1.2.1 r8.2.1.2.2.1))) else some ⟨o_Z130,(b,(d,e,f,()),())⟩) := (hw _ _).trans (by kernel_rfl)
theorem Z130.ev (R:Run) (N:Nat) (a0:((List Int) × Int × Int × Unit)) (a1 a2:Int):qro E R sg_Z130 pol_Z130 F_Z130 N [⟨(.ptr (.cons (.sl (.int .u8)) (.cons yI (.cons (.int .u64) .nil)))),a0⟩,⟨yI,a1⟩,⟨yI,a2⟩] = ((qlR R n_Z110 o_Z110 [⟨(.ptr (.cons (.sl (.int .u8)) (.cons yI (.cons (.int .u64) .nil)))),(a0.1,a0.2.1,a0.2.2.1,())⟩,⟨yI,a2⟩]).bind fun r1 => (Z130.l0 R N N a1 ([]:List Int) (w64 ((1:Int) + r1.1)) r1.2.1.1 r1.2.1.2.1 r1.2.1.2.2.1)) := by kernel_rfl
def Z144.l0 (R:Run) (N n:Nat) (a:Int) (b:vK) (e:(List Int)) (f g:Int):Option Dv := R.w (some ⟨(.c (.box 51 0)::(V.dead::(.c (.box 2 0)::(.c (.arr 37)::(.c (.d yI a)::(zd 46 [])))))),(none::(none::(some (.box [.nils yL] false false)::(zo 34 (some (.arr yL b false false false)::(zo 13 (some (.box [.d (.sl (.int .u8)) e,.d yI f,.d (.int .u64) g] false true)::[])))))))⟩) fun st => lC R pol_Z144 12 N [1,1,1,0,1,0,0] F_Z144 n st (kB R pol_Z144 1 (kS R pol_Z144 15 N [1,1,1,1] F_Z144 (qrY E sg_Z144 F_Z144)))
theorem Z144.l0_succ (R:Run) (hw:R.ok) (N n:Nat) (a:Int) (b:vK) (c:(List Int)) (d e:Int):Z144.l0 R N (n + 1) a b c d e = (bif (decide (a > (0:Int))) then ((qlR R n_Z130 o_Z130 [⟨(.ptr (.cons (.sl (.int .u8)) (.cons yI (.cons (.int .u64) .nil)))),(c,d,e,())⟩,⟨yI,(5:Int)⟩,⟨yI,(3:Int)⟩]).bind fun r12 => ((chk (decide ((List.length b + List.length [r12.1]) * 24 ≤ 70368744177664))).bind fun _ => (Z144.l0 R N n (w64 (a - (1:Int))) (b ++ [r12.1]) r12.2.1.1 r12.2.1.2.1 r12.2.1.2.2.1))) else ((qlR R n_Z129 o_Z129 [⟨yK,b⟩]).bind fun r18 => some ⟨o_Z144,(r18.1,(c,d,e,()),())⟩)) := (hw _ _).trans (by kernel_rfl)
theorem Z144.ev (R:Run) (N:Nat) (a0:((List Int) × Int × Int × Unit)):qro E R sg_Z144 pol_Z144 F_Z144 N [⟨(.ptr (.cons (.sl (.int .u8)) (.cons yI (.cons (.int .u64) .nil)))),a0⟩] = ((qlR R n_Z110 o_Z110 [⟨(.ptr (.cons (.sl (.int .u8)) (.cons yI (.cons (.int .u64) .nil)))),(a0.1,a0.2.1,a0.2.2.1,())⟩,⟨yI,(6:Int)⟩]).bind fun r1 => (bif (r1.1 == (0:Int)) then ((qlR R n_Z129 o_Z129 [⟨yK,[[(0:Int),(1:Int)],[(1:Int),(2:Int)],[(0:Int),(2:Int)]]⟩]).bind fun r2 => some ⟨o_Z144,(r2.1,(r1.2.1.1,r1.2.1.2.1,r1.2.1.2.2.1,()),())⟩) else (bif (r1.1 == (1:Int)) then ((qlR R n_Z129 o_Z129 [⟨yK,[[(0:Int),(1:Int),(2:Int)],[(1:Int),(2:Int),(3:Int)]]⟩]).bind fun r3 => some ⟨o_Z144,(r3.1,(r1.2.1.1,r1.2.1.2.1,r1.2.1.2.2.1,()),())⟩) else (bif (r1.1 == (2:Int)) then ((qlR R n_Z129 o_Z129 [⟨yK,[[(0:Int),(1:Int),(2:Int)],[(0:Int),(1:Int),(3:Int)],[(0:Int),(2:Int),(3:Int)],[(1:Int),(2:Int),(3:Int)]]⟩]).bind fun r4 => some ⟨o_Z144,(r4.1,(r1.2.1.1,r1.2.1.2.1,r1.2.1.2.2.1,()),())⟩) else (bif (r1.1 == (3:Int)) then ((qlR R n_Z129 o_Z129 [⟨yK,[[(0:Int),(1:Int)],[(1:Int),(2:Int)],[(2:Int),(3:Int)],[(0:Int),(3:Int)],[(1:Int),(3:Int)]]⟩]).bind fun r5 => some ⟨o_Z144,(r5.1,(r1.2.1.1,r1.2.1.2.1,r1.2.1.2.2.1,()),())⟩) else ((qlR R n_Z110 o_Z110 [⟨(.ptr (.cons (.sl (.int .u8)) (.cons yI (.cons (.int .u64) .nil)))),(r1.2.1.1,r1.2.1.2.1,r1.2.1.2.2.1,())⟩,⟨yI,(4:Int)⟩]).bind fun r6 => (Z144.l0 R N N r6.1 ([]:List (List Int)) r6.2.1.1 r6.2.1.2.1 r6.2.1.2.2.1))))))) := by kernel_rfl
theorem Z107.ev (R:Run) (N:Nat) (a0:((List Int) × Int × Int × Unit)) (a1:(List Int)):qro E R sg_Z107 pol_Z107 F_Z107 N [⟨(.ptr (.cons (.sl (.int .u8)) (.cons yI (.cons (.int .u64) .nil)))),a0⟩,⟨yL,a1⟩] = ((qlR R n_Z110 o_Z110 [⟨(.ptr (.cons (.sl (.int .u8)) (.cons yI (.cons (.int .u64) .nil)))),(a0.1,a0.2.1,a0.2.2.1,())⟩,⟨yI,(List.length a1:Int)⟩]).bind fun r1 => ((idx? a1 r1.1).bind fun y2 => some ⟨o_Z107,((y2,()).1,(r1.2.1.1,r1.2.1.2.1,r1.2.1.2.2.1,()),())⟩)) := by kernel_rfl
def Z139.l0 (R:Run) (N n:Nat) (a:(vK × Unit)) (b e:Int) (f:vK):Option Dv := R.w (some ⟨(.c (.ip (.cons yK .nil) a 0)::(.c (.d yI b)::(V.dead::(V.dead::(.c (.box 4 0)::(.c (.box 5 0)::(.c (.d yI e)::(zd 36 [])))))))),(zo 4 (some (.box [.nils yL] false false)::(some (.box [.arr 7] false false)::(none::(some (.arr yL f true false false)::(zo 38 []))))))⟩) fun st => lC R pol_Z139 3 N [1,1,0,1,0,0] F_Z139 n st (kB R pol_Z139 0 (kS R pol_Z139 7 N [1,1,1] F_Z139 (qrY E sg_Z139 F_Z139)))
theorem Z139.l0_succ (R:Run) (hw:R.ok) (N n:Nat) (a:(vK × Unit)) (b c:Int) (d:vK):Z139.l0 R N (n + 1) a b c d = (bif (decide (c < (List.length a.1:Int))) then ((idx? a.1 c).bind fun y5 => (bif (decide ((List.length (y5,()).1:Int) ≤ (w64 (b + (1:Int))))) then ((idx? a.1 c).bind fun y6 => ((qlR R n_Z103 o_Z103 [⟨yL,(y6,()).1⟩]).bind fun r7 => ((chk (decide ((List.length d + List.length [r7.1]) * 24 ≤ 70368744177664))).bind fun _ => (Z139.l0 R N n a b (w64 (c + (1:Int))) (d ++ [r7.1]))))) else (Z139.l0 R N n a b (w64 (c + (1:Int))) d))) else some ⟨o_Z139,(d,())⟩) := (hw _ _).trans (by kernel_rfl)
theorem Z139.ev (R:Run) (N:Nat) (a0:(vK × Unit)) (a1:Int):qro E R sg_Z139 pol_Z139 F_Z139 N [⟨(.ptr (.cons yK .nil)),a0⟩,⟨yI,a1⟩] = (Z139.l0 R N N a0 a1 (0:Int) ([]:List (List Int))) := by kernel_rfl
def Z132.j1 (R:Run) (N a:Nat) (b:(vK × Unit)) (e:(List Int)) (f:Int) (g:Bool) (h:(List Int)):Option Dv := R.w (some ⟨(.c (.ip (.cons yK .nil) b 0)::(zd 4 (.c (.d yL e)::(.c (.arr 15)::(.c (.d yI f)::(zd 16 (.c (.d .bool g)::(zd 11 [])))))))),(zo 15 (some (.arr yI h true false false)::(zo 22 [])))⟩) fun st => eC R pol_Z132 N [1,1,1,0,1,0,0,0,1] F_Z132 st (kS R pol_Z132 6 N [1,1,1,0,1,0,0,1] F_Z132 (kL R pol_Z132 4 N [1,1,1,0,1,0,0] F_Z132 a (kB R pol_Z132 0 (kS R pol_Z132 7 N [1,1,1,1] F_Z132 (qrY E sg_Z132 F_Z132)))))
def Z132.l0 (R:Run) (N n:Nat) (a:(vK × Unit)) (b:(List Int)) (e:Int) (f:(List Int)):Option Dv := R.w (some ⟨(.c (.ip (.cons yK .nil) a 0)::(zd 4 (.c (.d yL b)::(.c (.arr 15)::(.c (.d yI e)::(zd 28 [])))))),(zo 15 (some (.arr yI f true false false)::(zo 22 [])))⟩) fun st => lC R pol_Z132 4 N [1,1,1,0,1,0,0] F_Z132 n st (kB R pol_Z132 0 (kS R pol_Z132 7 N [1,1,1,1] F_Z132 (qrY E sg_Z132 F_Z132)))
theorem Z132.j1_eq (R:Run) (hw:R.ok) (N a:Nat) (b:(vK × Unit)) (c:(List Int)) (d:Int) (e:Bool) (f:(List Int)):Z132.j1 R N a b c d e f = (bif e then ((qlR R n_Z131 o_Z131 [⟨yL,c⟩,⟨yI,d⟩]).bind fun r11 => ((qlR R n_Z133 o_Z133 [⟨(.ptr (.cons yK .nil)),b⟩,⟨yL,r11.1⟩]).bind fun r12 => ((chk (decide ((List.length f + List.length [r12.1]) * 8 ≤ 70368744177664))).bind fun _ => (Z132.l0 R N a b c (w64 (d + (1:Int))) (f ++ [r12.1]))))) else some ⟨o_Z132,(f,())⟩) := (hw _ _).trans (by kernel_rfl)
theorem Z132.l0_succ (R:Run) (hw:R.ok) (N n:Nat) (a:(vK × Unit)) (b:(List Int)) (c:Int) (d:(List Int)):Z132.l0 R N (n + 1) a b c d = (bif (decide (c < (List.length b:Int))) then (Z132.j1 R N n a b c (decide ((List.length b:Int) > (1:Int))) d) else (Z132.j1 R N n a b c false d)) := (hw _ _).trans (by kernel_rfl)
theorem Z132.ev (R:Run) (N:Nat) (a0:(vK × Unit)) (a1:Int):qro E R sg_Z132 pol_Z132 F_Z132 N [⟨(.ptr (.cons yK .nil)),a0⟩,⟨yI,a1⟩] = ((idx? a0.1 a1).bind fun y1 => (Z132.l0 R N N a0 ((y1,()).1) (0:Int) ([]:List Int))) := by kernel_rfl
theorem Z126.ev (R:Run) (N:Nat) (a0 a1 a2:Int):qro E R sg_Z126 pol_Z126 F_Z126 N [⟨yI,a0⟩,⟨yI,a1⟩,⟨yI,a2⟩] = ((chk (decide (0 ≤ (w64 (a1 * a2))) && decide ((w64 (a1 * a2)) * 8 ≤ 70368744177664))).bind fun _ => some ⟨o_Z126,(a0,a1,a2,(List.replicate (Int.toNat (w64 (a1 * a2))) (0:Int)),())⟩) := by kernel_rfl
def Z150.l1 (R:Run) (N a n:Nat) (b:(vK × Unit)) (e:Int) (f:(List Int)) (g:Int) (h:(List Int)) (i j k:Int) (l:vN) (m:vK) (o:(List Int)):Option Dv := R.w (some ⟨(.c (.ip (.cons yK .nil) b 0)::(.c (.d yI e)::(.c (.d yL f)::(zd 3 (.c (.box 6 0)::(.c (.box 7 0)::(.c (.d yI g)::(.c (.d yL h)::(.c (.d yI i)::(zd 44 [])))))))))),(zo 6 (some (.box [.nils yL,.d yI j,.nils yI,.nils (.st yM)] false false)::(some (.box [.arr 59,.d yI k,.arr 60,.arr 16] false false)::(zo 8 (some (.arr (.st yM) l true false false)::(zo 42 (some (.arr yL m true false false)::(some (.arr yI o true false false)::[]))))))))⟩) fun st => lC R pol_Z150 7 N [1,1,0,1,0,0,1,0,0,1,1,0,0] F_Z150 n st (kB R pol_Z150 2 (kB R pol_Z150 1 (kS R pol_Z150 4 N [1,1,0,1,0,0,1,1] F_Z150 (kL R pol_Z150 3 N [1,1,0,1,0,0] F_Z150 a (kB R pol_Z150 0 (kS R pol_Z150 10 N [1,1,1] F_Z150 (qrY E sg_Z150 F_Z150)))))))
def Z150.l0 (R:Run) (N n:Nat) (a:(vK × Unit)) (b:Int) (e:(List Int)) (f g h:Int) (i:vN) (j:vK) (k:(List Int)):Option Dv := R.w (some ⟨(.c (.ip (.cons yK .nil) a 0)::(.c (.d yI b)::(.c (.d yL e)::(zd 3 (.c (.box 6 0)::(.c (.box 7 0)::(.c (.d yI f)::(zd 46 [])))))))),(zo 6 (some (.box [.nils yL,.d yI g,.nils yI,.nils (.st yM)] false false)::(some (.box [.arr 59,.d yI h,.arr 60,.arr 16] false false)::(zo 8 (some (.arr (.st yM) i true false false)::(zo 42 (some (.arr yL j true false false)::(some (.arr yI k true false false)::[]))))))))⟩) fun st => lC R pol_Z150 3 N [1,1,0,1,0,0] F_Z150 n st (kB R pol_Z150 0 (kS R pol_Z150 10 N [1,1,1] F_Z150 (qrY E sg_Z150 F_Z150)))
theorem Z150.l1_succ (R:Run) (hw:R.ok) (N a n:Nat) (b:(vK × Unit)) (c:Int) (d:(List Int)) (e:Int) (f:(List Int)) (g h i:Int) (j:vN) (k:vK) (l:(List Int)):Z150.l1 R N a (n + 1) b c d e f g h i j k l = (bif (decide (g < (List.length f:Int))) then ((idx? d e).bind fun y24 => ((idx? f g).bind fun y25 => ((idx? d (y25,()).1).bind fun y26 => ((qlR R n_Z126 o_Z126 [⟨yI,c⟩,⟨yI,(y24,()).1⟩,⟨yI,(y26,()).1⟩]).bind fun r27 => ((chk (decide ((List.length j + List.length [(r27.1,r27.2.1,r27.2.2.1,r27.2.2.2.1,())]) * 48 ≤ 70368744177664))).bind fun _ => (Z150.l1 R N a n b c d e f (w64 (g + (1:Int))) h i (j ++ [(r27.1,r27.2.1,r27.2.2.1,r27.2.2.2.1,())]) k l)))))) else (Z150.l0 R N a b c d (w64 (e + (1:Int))) h i j k l)) := (hw _ _).trans (by kernel_rfl)
theorem Z150.l0_succ (R:Run) (hw:R.ok) (N n:Nat) (a:(vK × Unit)) (b:Int) (c:(List Int)) (d e f:Int) (g:vN) (h:vK) (i:(List Int)):Z150.l0 R N (n + 1) a b c d e f g h i = (bif (decide (d < (List.length a.1:Int))) then ((qlR R n_Z132 o_Z132 [⟨(.ptr (.cons yK .nil)),a⟩,⟨yI,d⟩]).bind fun r12 => (Z150.l1 R N n N a b c d r12.1 (0:Int) e f g h i)) else some ⟨o_Z150,(h,f,i,g,())⟩) := (hw _ _).trans (by kernel_rfl)
theorem Z150.ev (R:Run) (N:Nat) (a0:(vK × Unit)) (a1:Int) (a2:(List Int)):qro E R sg_Z150 pol_Z150 F_Z150 N [⟨(.ptr (.cons yK .nil)),a0⟩,⟨yI,a1⟩,⟨yL,a2⟩] = ((qlR R n_Z139 o_Z139 [⟨(.ptr (.cons yK .nil)),a0⟩,⟨yI,(3:Int)⟩]).bind fun r1 => ((qlR R n_Z103 o_Z103 [⟨yL,a2⟩]).bind fun r2 => (Z150.l0 R N N a0 a1 a2 (0:Int) (0:Int) a1 ([]:List vM) r1.1 r2.1))) := by kernel_rfl
def Z125.l0 (R:Run) (N n:Nat) (a b e f g h i j:Int) (k:(List Int)):Option Dv := R.w (some ⟨(V.dead::(.c (.d yI a)::(V.dead::(V.dead::(.c (.box 4 0)::(.c (.box 5 0)::(.c (.d yI b)::(zd 18 [])))))))),(zo 4 (some (.box [.d yI e,.d yI f,.d yI g,.nils yI] false false)::(some (.box [.d yI h,.d yI i,.d yI j,.arr 27] false false)::(zo 21 (some (.arr yI k true false false)::[])))))⟩) fun st => lC R pol_Z125 3 N [1,1,0,1,0,0] F_Z125 n st (kB R pol_Z125 0 (kS R pol_Z125 6 N [1,1,1] F_Z125 (qrY E sg_Z125 F_Z125)))
theorem Z125.l0_succ (R:Run) (hw:R.ok) (N n:Nat) (a b c d e f g h:Int) (i:(List Int)):Z125.l0 R N (n + 1) a b c d e f g h i = (bif (decide (b < a)) then ((chk (decide (0 ≤ (w64 ((w64 (b * a)) + b))) && decide ((w64 ((w64 (b * a)) + b)) < (List.length i:Int)))).bind fun _ => (Z125.l0 R N n a (w64 (b + (1:Int))) c d e f g h (List.set i (Int.toNat (w64 ((w64 (b * a)) + b))) (1:Int)))) else some ⟨o_Z125,(f,g,h,i,())⟩) := (hw _ _).trans (by kernel_rfl)
theorem Z125.ev (R:Run) (N:Nat) (a0 a1:Int):qro E R sg_Z125 pol_Z125 F_Z125 N [⟨yI,a0⟩,⟨yI,a1⟩] = ((qlR R n_Z126 o_Z126 [⟨yI,a0⟩,⟨yI,a1⟩,⟨yI,a1⟩]).bind fun r1 => (Z125.l0 R N N a1 (0:Int) (0:Int) (0:Int) (0:Int) r1.1 r1.2.1 r1.2.2.1 r1.2.2.2.1)) := by kernel_rfl
def Z142.l1 (R:Run) (N n:Nat) (a b e f g:Int) (h:vN) (i:vK) (j:(List Int)):Option Dv := R.w (some ⟨(V.dead::(.c (.d yI a)::(.c (.d yI b)::(zd 3 (.c (.box 6 0)::(V.dead::(V.dead::(.c (.box 9 0)::(.c (.d yI e)::(zd 33 [])))))))))),(zo 6 (some (.box [.nils yL,.d yI f,.nils yI,.nils (.st yM)] false false)::(none::(none::(some (.box [.arr 49,.d yI g,.arr 50,.arr 47] false false)::(zo 37 (some (.arr (.st yM) h true false false)::(none::(some (.arr yL i true false false)::(some (.arr yI j true false false)::[]))))))))))⟩) fun st => lC R pol_Z142 8 N [1,1,1,1,0,1,0,0] F_Z142 n st (kB R pol_Z142 2 (kS R pol_Z142 11 N [1,1,1,1,1] F_Z142 (qrY E sg_Z142 F_Z142)))
def Z142.l0 (R:Run) (N n:Nat) (a:(vK × Unit)) (b e f g:Int) (h:(List Int)):Option Dv := R.w (some ⟨(.c (.ip (.cons yK .nil) a 0)::(.c (.d yI b)::(.c (.d yI e)::(zd 3 (.c (.box 6 0)::(.c (.arr 11)::(.c (.d yI f)::(zd 35 [])))))))),(zo 6 (some (.box [.nils yL,.d yI g,.nils yI,.nils (.st yM)] false false)::(zo 4 (some (.arr yI h true false false)::(zo 39 [])))))⟩) fun st => lC R pol_Z142 3 N [1,1,0,1,0,0] F_Z142 n st (kB R pol_Z142 0 (kS R pol_Z142 6 N [1,1,1] F_Z142 (qrY E sg_Z142 F_Z142)))
theorem Z142.l1_succ (R:Run) (hw:R.ok) (N n:Nat) (a b c d e:Int) (f:vN) (g:vK) (h:(List Int)):Z142.l1 R N (n + 1) a b c d e f g h = (bif (decide (c < (List.length f:Int))) then ((qlR R n_Z125 o_Z125 [⟨yI,a⟩,⟨yI,b⟩]).bind fun r22 => ((chk (decide (0 ≤ c) && decide (c < (List.length f:Int)))).bind fun _ => (Z142.l1 R N n a b (w64 (c + (1:Int))) d e (List.set f (Int.toNat c) (r22.1,r22.2.1,r22.2.2.1,r22.2.2.2.1,())) g h))) else some ⟨o_Z142,(g,e,h,f,())⟩) := (hw _ _).trans (by kernel_rfl)
theorem Z142.l0_succ (R:Run) (hw:R.ok) (N n:Nat) (a:(vK × Unit)) (b c d e:Int) (f:(List Int)):Z142.l0 R N (n + 1) a b c d e f = (bif (decide (d < (List.length a.1:Int))) then ((chk (decide ((List.length f + List.length [c]) * 8 ≤ 70368744177664))).bind fun _ => (Z142.l0 R N n a b c (w64 (d + (1:Int))) e (f ++ [c]))) else ((qlR R n_Z150 o_Z150 [⟨(.ptr (.cons yK .nil)),a⟩,⟨yI,b⟩,⟨yL,f⟩]).bind fun r13 => (Z142.l1 R N N b c (0:Int) e r13.2.1 r13.2.2.2.1 r13.1 r13.2.2.1))) := (hw _ _).trans (by kernel_rfl)
theorem Z142.ev (R:Run) (N:Nat) (a0:(vK × Unit)) (a1 a2:Int):qro E R sg_Z142 pol_Z142 F_Z142 N [⟨(.ptr (.cons yK .nil)),a0⟩,⟨yI,a1⟩,⟨yI,a2⟩] = (Z142.l0 R N N a0 a1 a2 (0:Int) (0:Int) ([]:List Int)) := by kernel_rfl
theorem Z109.ev (R:Run) (N:Nat) (a0:((List Int) × Int × Int × Unit)) (a1:Int):qro E R sg_Z109 pol_Z109 F_Z109 N [⟨(.ptr (.cons (.sl (.int .u8)) (.cons yI (.cons (.int .u64) .nil)))),a0⟩,⟨yI,a1⟩] = ((qlR R n_Z110 o_Z110 [⟨(.ptr (.cons (.sl (.int .u8)) (.cons yI (.cons (.int .u64) .nil)))),(a0.1,a0.2.1,a0.2.2.1,())⟩,⟨yI,a1⟩]).bind fun r1 => some ⟨o_Z109,((r1.1 == (0:Int)),(r1.2.1.1,r1.2.1.2.1,r1.2.1.2.2.1,()),())⟩) := by kernel_rfl
def Z115.j3 (R:Run) (N:Nat) (a b e f g h:Int) (i:(List Int)) (j k:Int) (l:(List Int)):Option Dv := R.w (some ⟨(zd 8 (.c (.box 8 0)::(.c (.box 9 0)::(zd 52 [])))),(zo 8 (some (.box [.d yI a,.d yI b,.d yI e,.nils yI] false false)::(some (.box [.d yI f,.d yI g,.d yI h,.arr 66] false false)::(zo 52 (some (.box [.d (.sl (.int .u8)) i,.d yI j,.d (.int .u64) k] false true)::(zo 3 (some (.arr yI l true false false)::[])))))))⟩) fun st => eC R pol_Z115 N [1,1,1,1] F_Z115 st (qrY E sg_Z115 F_Z115)
def Z115.l2 (R:Run) (N n:Nat) (a b e f g h i j k l:Int) (m:(List Int)) (o p:Int) (q:(List Int)):Option Dv := R.w (some ⟨(V.dead::(.c (.d yI a)::(.c (.d yI b)::(.c (.d yI e)::(zd 4 (.c (.box 8 0)::(.c (.box 9 0)::(V.dead::(.c (.d yI f)::(zd 50 [])))))))))),(zo 8 (some (.box [.d yI g,.d yI h,.d yI i,.nils yI] false false)::(some (.box [.d yI j,.d yI k,.d yI l,.arr 66] false false)::(zo 52 (some (.box [.d (.sl (.int .u8)) m,.d yI o,.d (.int .u64) p] false true)::(zo 3 (some (.arr yI q true false false)::[])))))))⟩) fun st => lC R pol_Z115 9 N [1,1,1,0,1,0,1,0,0] F_Z115 n st (kB R pol_Z115 2 (kS R pol_Z115 12 N [1,1,1,1] F_Z115 (qrY E sg_Z115 F_Z115)))
def Z115.j1 (R:Run) (N:Nat) (a b e:Int) (f:Bool) (g h i j k l:Int) (m:(List Int)) (o p:Int) (q:(List Int)):Option Dv := R.w (some ⟨(V.dead::(.c (.d yI a)::(.c (.d yI b)::(.c (.d yI e)::(zd 4 (.c (.box 8 0)::(.c (.box 9 0)::(zd 28 (.c (.d .bool f)::(zd 23 [])))))))))),(zo 8 (some (.box [.d yI g,.d yI h,.d yI i,.nils yI] false false)::(some (.box [.d yI j,.d yI k,.d yI l,.arr 66] false false)::(zo 52 (some (.box [.d (.sl (.int .u8)) m,.d yI o,.d (.int .u64) p] false true)::(zo 3 (some (.arr yI q true false false)::[])))))))⟩) fun st => eC R pol_Z115 N [1,1,1,0,1] F_Z115 st (kS R pol_Z115 12 N [1,1,1,1] F_Z115 (qrY E sg_Z115 F_Z115))
def Z115.l0 (R:Run) (N n:Nat) (a b e f g h i j k l:Int) (m:(List Int)) (o p:Int) (q:(List Int)):Option Dv := R.w (some ⟨(.c (.box 62 0)::(.c (.d yI a)::(.c (.d yI b)::(.c (.d yI e)::(zd 4 (.c (.box 8 0)::(.c (.box 9 0)::(.c (.d yI f)::(zd 51 []))))))))),(zo 8 (some (.box [.d yI g,.d yI h,.d yI i,.nils yI] false false)::(some (.box [.d yI j,.d yI k,.d yI l,.arr 66] false false)::(zo 52 (some (.box [.d (.sl (.int .u8)) m,.d yI o,.d (.int .u64) p] false true)::(zo 3 (some (.arr yI q true false false)::[])))))))⟩) fun st => lC R pol_Z115 3 N [1,1,0,1,0,0] F_Z115 n st (kB R pol_Z115 0 (kS R pol_Z115 7 N [1,1,1] F_Z115 (qrY E sg_Z115 F_Z115)))
theorem Z115.j3_eq (R:Run) (hw:R.ok) (N:Nat) (a b c d e f:Int) (g:(List Int)) (h i:Int) (j:(List Int)):Z115.j3 R N a b c d e f g h i j = some ⟨o_Z115,(d,e,f,j,(g,h,i,()),())⟩ := (hw _ _).trans (by kernel_rfl)
theorem Z115.l2_succ (R:Run) (hw:R.ok) (N n:Nat) (a b c d e f g h i j:Int) (k:(List Int)) (l m:Int) (o:(List Int)):Z115.l2 R N (n + 1) a b c d e f g h i j k l m o = (bif (decide (d < c)) then ((chk (decide (0 ≤ d) && decide (d < (List.length o:Int)))).bind fun _ => (Option.bind (o)[(Int.toNat d)]? fun y75 => ((chk (a != 0)).bind fun _ => ((chk (decide (0 ≤ (w64 ((w64 ((w64 (b - (1:Int))) * c)) + d))) && decide ((w64 ((w64 ((w64 (b - (1:Int))) * c)) + d)) < (List.length o:Int)))).bind fun _ => (Z115.l2 R N n a b c (w64 (d + (1:Int))) e f g h i j k l m (List.set o (Int.toNat (w64 ((w64 ((w64 (b - (1:Int))) * c)) + d))) (Int.tmod (w64 (y75 * (2:Int))) a))))))) else (Z115.j3 R N e f g h i j k l m o)) := (hw _ _).trans (by kernel_rfl)
theorem Z115.j1_eq (R:Run) (hw:R.ok) (N:Nat) (a b c:Int) (d:Bool) (e f g h i j:Int) (k:(List Int)) (l m:Int) (o:(List Int)):Z115.j1 R N a b c d e f g h i j k l m o = (bif d then (Z115.l2 R N N a b c (0:Int) e f g h i j k l m o) else (Z115.j3 R N e f g h i j k l m o)) := (hw _ _).trans (by kernel_rfl)
theorem Z115.l0_succ (R:Run) (hw:R.ok) (N n:Nat) (a b c d e f g h i j:Int) (k:(List Int)) (l m:Int) (o:(List Int)):Z115.l0 R N (n + 1) a b c d e f g h i j k l m o = (bif (decide (d < (List.length o:Int))) then ((qlR R n_Z110 o_Z110 [⟨(.ptr (.cons (.sl (.int .u8)) (.cons yI (.cons (.int .u64) .nil)))),(k,l,m,())⟩,⟨yI,(3:Int)⟩]).bind fun r16 => (bif (decide (r16.1 > (0:Int))) then ((qlR R n_Z110 o_Z110 [⟨(.ptr (.cons (.sl (.int .u8)) (.cons yI (.cons (.int .u64) .nil)))),(r16.2.1.1,r16.2.1.2.1,r16.2.1.2.2.1,())⟩,⟨yI,a⟩]).bind fun r17 => ((chk (decide (0 ≤ d) && decide (d < (List.length o:Int)))).bind fun _ => (Z115.l0 R N n a b c (w64 (d + (1:Int))) e f g h i j r17.2.1.1 r17.2.1.2.1 r17.2.1.2.2.1 (List.set o (Int.toNat d) r17.1)))) else (Z115.l0 R N n a b c (w64 (d + (1:Int))) e f g h i j r16.2.1.1 r16.2.1.2.1 r16.2.1.2.2.1 o))) else (bif (decide (b > (1:Int))) then ((qlR R n_Z109 o_Z109 [⟨(.ptr (.cons (.sl (.int .u8)) (.cons yI (.cons (.int .u64) .nil)))),(k,l,m,())⟩,⟨yI,(3:Int)⟩]).bind fun r46 => (Z115.j1 R N a b c r46.1 e f g h i j r46.2.1.1 r46.2.1.2.1 r46.2.1.2.2.1 o)) else (Z115.j1 R N a b c false e f g h i j k l m o))) := (hw _ _).trans (by kernel_rfl)
theorem Z115.ev (R:Run) (N:Nat) (a0:((List Int) × Int × Int × Unit)) (a1 a2 a3:Int):qro E R sg_Z115 pol_Z115 F_Z115 N [⟨(.ptr (.cons (.sl (.int .u8)) (.cons yI (.cons (.int .u64) .nil)))),a0⟩,⟨yI,a1⟩,⟨yI,a2⟩,⟨yI,a3⟩] = ((qlR R n_Z126 o_Z126 [⟨yI,a1⟩,⟨yI,a2⟩,⟨yI,a3⟩]).bind fun r1 => (Z115.l0 R N N a1 a2 a3 (0:Int) (0:Int) (0:Int) (0:Int) r1.1 r1.2.1 r1.2.2.1 a0.1 a0.2.1 a0.2.2.1 r1.2.2.2.1)) := by kernel_rfl
def Z116.l0 (R:Run) (N n:Nat) (a b e f:Int):Option Dv := R.w (some ⟨(.c (.d yI a)::(.c (.d yI b)::(zd 3 (.c (.d yI e)::(.c (.d yI f)::(zd 12 [])))))),(zo 21 [])⟩) fun st => lC R pol_Z116 3 N [1,1,0,1,0,0] F_Z116 n st (kB R pol_Z116 0 (kS R pol_Z116 6 N [1,1,1] F_Z116 (qrY E sg_Z116 F_Z116)))
theorem Z116.l0_succ (R:Run) (hw:R.ok) (N n:Nat) (a b c d:Int):Z116.l0 R N (n + 1) a b c d = (bif (decide (d > (0:Int))) then ((chk (b != 0)).bind fun _ => (Z116.l0 R N n a b (Int.tmod (w64 (c * a)) b) (w64 (d - (1:Int))))) else some ⟨o_Z116,(c,())⟩) := (hw _ _).trans (by kernel_rfl)
theorem Z116.ev (R:Run) (N:Nat) (a0 a1:Int):qro E R sg_Z116 pol_Z116 F_Z116 N [⟨yI,a0⟩,⟨yI,a1⟩] = (Z116.l0 R N N a0 a1 (1:Int) (w64 (a1 - (2:Int)))) := by kernel_rfl
theorem Z119.ev (R:Run) (N:Nat) (a0 a1:Int):qro E R sg_Z119 pol_Z119 F_Z119 N [⟨yI,a0⟩,⟨yI,a1⟩] = ((chk (a1 != 0)).bind fun _ => ((chk (a1 != 0)).bind fun _ => some ⟨o_Z119,((Int.tmod (w64 ((Int.tmod a0 a1) + a1)) a1),())⟩)) := by kernel_rfl
def Z122.l10 (R:Run) (N a b n:Nat) (e:vM) (f g h i j k l m o p q r s t:Int) (u v:(List Int)):Option Dv := R.w (some ⟨(.c (.ip yM e 0)::(V.dead::(.c (.box 2 0)::(V.dead::(V.dead::(.c (.box 5 0)::(.c (.d yI f)::(.c (.d yI g)::(.c (.arr 47)::(.c (.d yI h)::(.c (.d yI i)::(.c (.d yI j)::(zd 6 (.c (.d yI k)::(.c (.d yI l)::(.c (.d yI m)::(zd 225 []))))))))))))))))),(none::(none::(some (.box [.d yI o,.d yI p,.d yI q,.nils yI] false false)::(none::(none::(some (.box [.d yI r,.d yI s,.d yI t,.arr 247] false false)::(zo 41 (some (.arr yI u true false false)::(zo 199 (some (.arr yI v true false false)::[]))))))))))⟩) fun st => lC R pol_Z122 35 N [1,1,1,1,1,1,1,0,1,0,0,1,0,0,1,1,1,1,1,1,1,1,0,1,0,0,1,0,0,1,1,1,0,0] F_Z122 n st (kB R pol_Z122 10 (kB R pol_Z122 9 (q0_1 R N (q0_6 R N b (kB R pol_Z122 8 (q0_2 R N (q0_8 R (q0_3 R N (q0_7 R N a (q0_9 R (q0_4 R N (qrY E sg_Z122 F_Z122))))))))))))
def Z122.j9 (R:Run) (N a b:Nat) (e:vM) (f g h i j k l:Int) (m:Bool) (o p q r s t:Int) (u v:(List Int)):Option Dv := R.w (some ⟨(.c (.ip yM e 0)::(V.dead::(.c (.box 2 0)::(V.dead::(V.dead::(.c (.box 5 0)::(.c (.d yI f)::(.c (.d yI g)::(.c (.arr 47)::(.c (.d yI h)::(.c (.d yI i)::(.c (.d yI j)::(zd 6 (.c (.d yI k)::(.c (.d yI l)::(zd 180 (.c (.d .bool m)::(zd 45 [])))))))))))))))))),(none::(none::(some (.box [.d yI o,.d yI p,.d yI q,.nils yI] false false)::(none::(none::(some (.box [.d yI r,.d yI s,.d yI t,.arr 247] false false)::(zo 41 (some (.arr yI u true false false)::(zo 199 (some (.arr yI v true false false)::[]))))))))))⟩) fun st => eC R pol_Z122 N [1,1,1,1,1,1,1,0,1,0,0,1,0,0,1,1,1,1,1,1,1,1,0,1,0,0,1,0,0,1,0,1] F_Z122 st (kS R pol_Z122 34 N [1,1,1,1,1,1,1,0,1,0,0,1,0,0,1,1,1,1,1,1,1,1,0,1,0,0,1,0,0,1,1] F_Z122 (kB R pol_Z122 9 (q0_1 R N (q0_6 R N b (kB R pol_Z122 8 (q0_2 R N (q0_8 R (q0_3 R N (q0_7 R N a (q0_9 R (q0_4 R N (qrY E sg_Z122 F_Z122))))))))))))
def Z122.l8 (R:Run) (N a n:Nat) (b:vM) (e f g h i j k l m o p q:Int) (r s:(List Int)):Option Dv := R.w (some ⟨(.c (.ip yM b 0)::(V.dead::(.c (.box 2 0)::(V.dead::(V.dead::(.c (.box 5 0)::(.c (.d yI e)::(.c (.d yI f)::(.c (.arr 47)::(.c (.d yI g)::(.c (.d yI h)::(.c (.d yI i)::(zd 6 (.c (.d yI j)::(zd 227 []))))))))))))))),(none::(none::(some (.box [.d yI k,.d yI l,.d yI m,.nils yI] false false)::(none::(none::(some (.box [.d yI o,.d yI p,.d yI q,.arr 247] false false)::(zo 41 (some (.arr yI r true false false)::(zo 199 (some (.arr yI s true false false)::[]))))))))))⟩) fun st => lC R pol_Z122 30 N [1,1,1,1,1,1,1,0,1,0,0,1,0,0,1,1,1,1,1,1,1,1,0,1,0,0] F_Z122 n st (kB R pol_Z122 8 (q0_2 R N (q0_8 R (q0_3 R N (q0_7 R N a (q0_9 R (q0_4 R N (qrY E sg_Z122 F_Z122))))))))
def Z122.l7 (R:Run) (N a n:Nat) (b:vM) (e f g h i j k l m o p q r:Int) (s t:(List Int)):Option Dv := R.w (some ⟨(.c (.ip yM b 0)::(V.dead::(.c (.box 2 0)::(V.dead::(V.dead::(.c (.box 5 0)::(.c (.d yI e)::(.c (.d yI f)::(.c (.arr 47)::(.c (.d yI g)::(.c (.d yI h)::(.c (.d yI i)::(zd 4 (.c (.d yI j)::(.c (.d yI k)::(zd 228 [])))))))))))))))),(none::(none::(some (.box [.d yI l,.d yI m,.d yI o,.nils yI] false false)::(none::(none::(some (.box [.d yI p,.d yI q,.d yI r,.arr 247] false false)::(zo 41 (some (.arr yI s true false false)::(zo 199 (some (.arr yI t true false false)::[]))))))))))⟩) fun st => lC R pol_Z122 26 N [1,1,1,1,1,1,1,0,1,0,0,1,0,0,1,1,1,1,1,1,1,0,1,0,0] F_Z122 n st (kB R pol_Z122 6 (kS R pol_Z122 29 N [1,1,1,1,1,1,1,0,1,0,0,1,0,0,1,1,1,1,1,1,1,1] F_Z122 (q0_8 R (q0_3 R N (q0_7 R N a (q0_9 R (q0_4 R N (qrY E sg_Z122 F_Z122))))))))
def Z122.j6 (R:Run) (N a:Nat) (b:vM) (e f g h i j k l m o p:Int) (q r:(List Int)):Option Dv := R.w (some ⟨(.c (.ip yM b 0)::(V.dead::(.c (.box 2 0)::(V.dead::(V.dead::(.c (.box 5 0)::(.c (.d yI e)::(.c (.d yI f)::(.c (.arr 47)::(.c (.d yI g)::(.c (.d yI h)::(.c (.d yI i)::(zd 234 []))))))))))))),(none::(none::(some (.box [.d yI j,.d yI k,.d yI l,.nils yI] false false)::(none::(none::(some (.box [.d yI m,.d yI o,.d yI p,.arr 247] false false)::(zo 41 (some (.arr yI q true false false)::(zo 199 (some (.arr yI r true false false)::[]))))))))))⟩) fun st => eC R pol_Z122 N [1,1,1,1,1,1,1,0,1,0,0,1,0,0,1,1,1,1] F_Z122 st (q0_8 R (q0_3 R N (q0_7 R N a (q0_9 R (q0_4 R N (qrY E sg_Z122 F_Z122))))))
def Z122.l5 (R:Run) (N a n:Nat) (b:vM) (e f g h i j k l m o p q r:Int) (s t:(List Int)):Option Dv := R.w (some ⟨(.c (.ip yM b 0)::(V.dead::(.c (.box 2 0)::(V.dead::(V.dead::(.c (.box 5 0)::(.c (.d yI e)::(.c (.d yI f)::(.c (.arr 47)::(.c (.d yI g)::(.c (.d yI h)::(.c (.d yI i)::(.c (.d yI j)::(.c (.d yI k)::(zd 232 []))))))))))))))),(none::(none::(some (.box [.d yI l,.d yI m,.d yI o,.nils yI] false false)::(none::(none::(some (.box [.d yI p,.d yI q,.d yI r,.arr 247] false false)::(zo 41 (some (.arr yI s true false false)::(zo 199 (some (.arr yI t true false false)::[]))))))))))⟩) fun st => lC R pol_Z122 17 N [1,1,1,1,1,1,1,0,1,0,0,1,0,0,1,1,1,0,1,0,1,1,0,0] F_Z122 n st (kB R pol_Z122 4 (kS R pol_Z122 22 N [1,1,1,1,1,1,1,0,1,0,0,1,0,0,1,1,1,1] F_Z122 (q0_8 R (q0_3 R N (q0_7 R N a (q0_9 R (q0_4 R N (qrY E sg_Z122 F_Z122))))))))
def Z122.j4 (R:Run) (N a b:Nat) (e:vM) (f g h i j k:Int) (l:Bool) (m o p q r s:Int) (t u:(List Int)):Option Dv := R.w (some ⟨(.c (.ip yM e 0)::(V.dead::(.c (.box 2 0)::(V.dead::(V.dead::(.c (.box 5 0)::(.c (.d yI f)::(.c (.d yI g)::(.c (.arr 47)::(.c (.d yI h)::(.c (.d yI i)::(.c (.d yI j)::(.c (.d yI k)::(zd 66 (.c (.d .bool l)::(zd 166 [])))))))))))))))),(none::(none::(some (.box [.d yI m,.d yI o,.d yI p,.nils yI] false false)::(none::(none::(some (.box [.d yI q,.d yI r,.d yI s,.arr 247] false false)::(zo 41 (some (.arr yI t true false false)::(zo 199 (some (.arr yI u true false false)::[]))))))))))⟩) fun st => eC R pol_Z122 N [1,1,1,1,1,1,1,0,1,0,0,1,0,0,1,0,0,0,0,1] F_Z122 st (kS R pol_Z122 12 N [1,1,1,1,1,1,1,0,1,0,0,1,0,0,1,0,0,0,1] F_Z122 (kL R pol_Z122 11 N [1,1,1,1,1,1,1,0,1,0,0,1,0,0,1,0,0,0] F_Z122 b (kB R pol_Z122 2 (q0_5 R N (q0_8 R (q0_3 R N (q0_7 R N a (q0_9 R (q0_4 R N (qrY E sg_Z122 F_Z122))))))))))
def Z122.l3 (R:Run) (N a n:Nat) (b:vM) (e f g h i j k l m o p q:Int) (r s:(List Int)):Option Dv := R.w (some ⟨(.c (.ip yM b 0)::(V.dead::(.c (.box 2 0)::(V.dead::(V.dead::(.c (.box 5 0)::(.c (.d yI e)::(.c (.d yI f)::(.c (.arr 47)::(.c (.d yI g)::(.c (.d yI h)::(.c (.d yI i)::(.c (.d yI j)::(zd 233 [])))))))))))))),(none::(none::(some (.box [.d yI k,.d yI l,.d yI m,.nils yI] false false)::(none::(none::(some (.box [.d yI o,.d yI p,.d yI q,.arr 247] false false)::(zo 41 (some (.arr yI r true false false)::(zo 199 (some (.arr yI s true false false)::[]))))))))))⟩) fun st => lC R pol_Z122 11 N [1,1,1,1,1,1,1,0,1,0,0,1,0,0,1,0,0,0] F_Z122 n st (kB R pol_Z122 2 (q0_5 R N (q0_8 R (q0_3 R N (q0_7 R N a (q0_9 R (q0_4 R N (qrY E sg_Z122 F_Z122))))))))
def Z122.j2 (R:Run) (N a:Nat) (b:vM) (e f g h i:Int) (j:Bool) (k l m o p q:Int) (r s:(List Int)):Option Dv := R.w (some ⟨(.c (.ip yM b 0)::(V.dead::(.c (.box 2 0)::(V.dead::(V.dead::(.c (.box 5 0)::(.c (.d yI e)::(.c (.d yI f)::(.c (.arr 47)::(.c (.d yI g)::(.c (.d yI h)::(.c (.d yI i)::(zd 46 (.c (.d .bool j)::(zd 187 []))))))))))))))),(none::(none::(some (.box [.d yI k,.d yI l,.d yI m,.nils yI] false false)::(none::(none::(some (.box [.d yI o,.d yI p,.d yI q,.arr 247] false false)::(zo 41 (some (.arr yI r true false false)::(zo 199 (some (.arr yI s true false false)::[]))))))))))⟩) fun st => eC R pol_Z122 N [1,1,1,1,1,1,1,0,1,0,0,0,1] F_Z122 st (kS R pol_Z122 10 N [1,1,1,1,1,1,1,0,1,0,0,1] F_Z122 (q0_7 R N a (q0_9 R (q0_4 R N (qrY E sg_Z122 F_Z122)))))
def Z122.l1 (R:Run) (N n:Nat) (a:vM) (b e f g h i j k l m o:Int) (p q:(List Int)):Option Dv := R.w (some ⟨(.c (.ip yM a 0)::(V.dead::(.c (.box 2 0)::(V.dead::(V.dead::(.c (.box 5 0)::(.c (.d yI b)::(.c (.d yI e)::(.c (.arr 47)::(.c (.d yI f)::(.c (.d yI g)::(.c (.d yI h)::(zd 234 []))))))))))))),(none::(none::(some (.box [.d yI i,.d yI j,.d yI k,.nils yI] false false)::(none::(none::(some (.box [.d yI l,.d yI m,.d yI o,.arr 247] false false)::(zo 41 (some (.arr yI p true false false)::(zo 199 (some (.arr yI q true false false)::[]))))))))))⟩) fun st => lC R pol_Z122 8 N [1,1,1,1,1,1,1,0,1,0,0] F_Z122 n st (q0_9 R (q0_4 R N (qrY E sg_Z122 F_Z122)))
def Z122.j0 (R:Run) (N:Nat) (a:vM) (b e f g h i:Int) (j:(List Int)):Option Dv := R.w (some ⟨(.c (.ip yM a 0)::(V.dead::(.c (.box 2 0)::(V.dead::(V.dead::(.c (.box 5 0)::(zd 240 []))))))),(none::(none::(some (.box [.d yI b,.d yI e,.d yI f,.nils yI] false false)::(none::(none::(some (.box [.d yI g,.d yI h,.d yI i,.arr 247] false false)::(zo 241 (some (.arr yI j true false false)::[]))))))))⟩) fun st => eC R pol_Z122 N [1,1] F_Z122 st (qrY E sg_Z122 F_Z122)
theorem Z122.l10_succ (R:Run) (hw:R.ok) (N a b n:Nat) (c:vM) (d e f g h i j k l m o p q r:Int) (s t:(List Int)):Z122.l10 R N a b (n + 1) c d e f g h i j k l m o p q r s t = (bif (decide (k < e)) then ((chk (decide (0 ≤ (w64 ((w64 (i * e)) + k))) && decide ((w64 ((w64 (i * e)) + k)) < (List.length t:Int)))).bind fun _ => (Option.bind (t)[(Int.toNat (w64 ((w64 (i * e)) + k)))]? fun y248 => ((chk (decide (0 ≤ (w64 ((w64 (g * e)) + k))) && decide ((w64 ((w64 (g * e)) + k)) < (List.length t:Int)))).bind fun _ => (Option.bind (t)[(Int.toNat (w64 ((w64 (g * e)) + k)))]? fun y249 => ((qlR R n_Z119 o_Z119 [⟨yI,(w64 (y248 - (w64 (j * y249))))⟩,⟨yI,d⟩]).bind fun r250 => ((chk (decide (0 ≤ (w64 ((w64 (i * e)) + k))) && decide ((w64 ((w64 (i * e)) + k)) < (List.length t:Int)))).bind fun _ => (Z122.l10 R N a b n c d e f g h i j (w64 (k + (1:Int))) l m o p q r s (List.set t (Int.toNat (w64 ((w64 (i * e)) + k))) r250.1)))))))) else (Z122.l8 R N a b c d e f g h (w64 (i + (1:Int))) l m o p q r s t)) := (hw _ _).trans (by kernel_rfl)
theorem Z122.j9_eq (R:Run) (hw:R.ok) (N a b:Nat) (c:vM) (d e f g h i j:Int) (k:Bool) (l m o p q r:Int) (s t:(List Int)):Z122.j9 R N a b c d e f g h i j k l m o p q r s t = (bif k then (Z122.l8 R N a b c d e f g h (w64 (i + (1:Int))) l m o p q r s t) else (Z122.l10 R N a b N c d e f g h i j (0:Int) l m o p q r s t)) := (hw _ _).trans (by kernel_rfl)
theorem Z122.l8_succ (R:Run) (hw:R.ok) (N a n:Nat) (b:vM) (c d e f g h i j k l m o:Int) (p q:(List Int)):Z122.l8 R N a (n + 1) b c d e f g h i j k l m o p q = (bif (decide (h < b.2.1)) then ((chk (decide (0 ≤ (w64 ((w64 (h * d)) + g))) && decide ((w64 ((w64 (h * d)) + g)) < (List.length q:Int)))).bind fun _ => (Option.bind (q)[(Int.toNat (w64 ((w64 (h * d)) + g)))]? fun y198 => (bif (h == f) then (Z122.j9 R N a n b c d e f g h y198 true i j k l m o p q) else (Z122.j9 R N a n b c d e f g h y198 (y198 == (0:Int)) i j k l m o p q)))) else ((chk (decide ((List.length p + List.length [g]) * 8 ≤ 70368744177664))).bind fun _ => (Z122.l1 R N a b c d e (w64 (f + (1:Int))) (w64 (g + (1:Int))) i j k l m o (p ++ [g]) q))) := (hw _ _).trans (by kernel_rfl)
theorem Z122.l7_succ (R:Run) (hw:R.ok) (N a n:Nat) (b:vM) (c d e f g h i j k l m o p:Int) (q r:(List Int)):Z122.l7 R N a (n + 1) b c d e f g h i j k l m o p q r = (bif (decide (i < d)) then ((chk (decide (0 ≤ (w64 ((w64 (f * d)) + i))) && decide ((w64 ((w64 (f * d)) + i)) < (List.length r:Int)))).bind fun _ => (Option.bind (r)[(Int.toNat (w64 ((w64 (f * d)) + i)))]? fun y166 => ((chk (c != 0)).bind fun _ => ((chk (decide (0 ≤ (w64 ((w64 (f * d)) + i))) && decide ((w64 ((w64 (f * d)) + i)) < (List.length r:Int)))).bind fun _ => (Z122.l7 R N a n b c d e f g h (w64 (i + (1:Int))) j k l m o p q (List.set r (Int.toNat (w64 ((w64 (f * d)) + i))) (Int.tmod (w64 (y166 * h)) c))))))) else (Z122.l8 R N a N b c d e f g (0:Int) j k l m o p q r)) := (hw _ _).trans (by kernel_rfl)
theorem Z122.j6_eq (R:Run) (hw:R.ok) (N a:Nat) (b:vM) (c d e f g h i j k l m:Int) (o p:(List Int)):Z122.j6 R N a b c d e f g h i j k l m o p = ((chk (decide (0 ≤ (w64 ((w64 (f * d)) + g))) && decide ((w64 ((w64 (f * d)) + g)) < (List.length p:Int)))).bind fun _ => (Option.bind (p)[(Int.toNat (w64 ((w64 (f * d)) + g)))]? fun y148 => ((chk (c != 0)).bind fun _ => ((qlR R n_Z116 o_Z116 [⟨yI,y148⟩,⟨yI,c⟩]).bind fun r149 => (Z122.l7 R N a N b c d (Int.tmod (w64 (e * y148)) c) f g r149.1 (0:Int) h i j k l m o p))))) := (hw _ _).trans (by kernel_rfl)
theorem Z122.l5_succ (R:Run) (hw:R.ok) (N a n:Nat) (b:vM) (c d e f g h i j k l m o p:Int) (q r:(List Int)):Z122.l5 R N a (n + 1) b c d e f g h i j k l m o p q r = (bif (decide (i < d)) then ((chk (decide (0 ≤ (w64 ((w64 (h * d)) + i))) && decide ((w64 ((w64 (h * d)) + i)) < (List.length r:Int)))).bind fun _ => (Option.bind (r)[(Int.toNat (w64 ((w64 (h * d)) + i)))]? fun y116 => ((chk (decide (0 ≤ (w64 ((w64 (f * d)) + i))) && decide ((w64 ((w64 (f * d)) + i)) < (List.length r:Int)))).bind fun _ => (Option.bind (r)[(Int.toNat (w64 ((w64 (f * d)) + i)))]? fun y117 => ((chk (decide (0 ≤ (w64 ((w64 (h * d)) + i))) && decide ((w64 ((w64 (h * d)) + i)) < (List.length r:Int)))).bind fun _ => ((chk (decide (0 ≤ (w64 ((w64 (f * d)) + i))) && decide ((w64 ((w64 (f * d)) + i)) < (List.length (List.set r (Int.toNat (w64 ((w64 (h * d)) + i))) y117):Int)))).bind fun _ => (Z122.l5 R N a n b c d e f g h (w64 (i + (1:Int))) j k l m o p q (List.set (List.set r (Int.toNat (w64 ((w64 (h * d)) + i))) y117) (Int.toNat (w64 ((w64 (f * d)) + i))) y116)))))))) else (Z122.j6 R N a b c d e f g j k l m o p q r)) := (hw _ _).trans (by kernel_rfl)
theorem Z122.j4_eq (R:Run) (hw:R.ok) (N a b:Nat) (c:vM) (d e f g h i:Int) (j:Bool) (k l m o p q:Int) (r s:(List Int)):Z122.j4 R N a b c d e f g h i j k l m o p q r s = (bif j then (Z122.l3 R N a b c d e f g h (w64 (i + (1:Int))) k l m o p q r s) else (bif (i == c.2.1) then (Z122.l1 R N a c d e f g (w64 (h + (1:Int))) k l m o p q r s) else (bif (i != g) then (Z122.l5 R N a N c d e (w64 (d - f)) g h i (0:Int) k l m o p q r s) else (Z122.j6 R N a c d e f g h k l m o p q r s)))) := (hw _ _).trans (by kernel_rfl)
theorem Z122.l3_succ (R:Run) (hw:R.ok) (N a n:Nat) (b:vM) (c d e f g h i j k l m o:Int) (p q:(List Int)):Z122.l3 R N a (n + 1) b c d e f g h i j k l m o p q = (bif (decide (h < b.2.1)) then ((chk (decide (0 ≤ (w64 ((w64 (h * d)) + g))) && decide ((w64 ((w64 (h * d)) + g)) < (List.length q:Int)))).bind fun _ => (Option.bind (q)[(Int.toNat (w64 ((w64 (h * d)) + g)))]? fun y54 => (Z122.j4 R N a n b c d e f g h (y54 == (0:Int)) i j k l m o p q))) else (Z122.j4 R N a n b c d e f g h false i j k l m o p q)) := (hw _ _).trans (by kernel_rfl)
theorem Z122.j2_eq (R:Run) (hw:R.ok) (N a:Nat) (b:vM) (c d e f g:Int) (h:Bool) (i j k l m o:Int) (p q:(List Int)):Z122.j2 R N a b c d e f g h i j k l m o p q = (bif h then (Z122.l3 R N a N b c d e f g f i j k l m o p q) else some ⟨o_Z122,(l,m,o,q,p,e,())⟩) := (hw _ _).trans (by kernel_rfl)
theorem Z122.l1_succ (R:Run) (hw:R.ok) (N n:Nat) (a:vM) (b c d e f g h i j k l:Int) (m o:(List Int)):Z122.l1 R N (n + 1) a b c d e f g h i j k l m o = (bif (decide (f < c)) then (Z122.j2 R N n a b c d e f (decide (e < a.2.1)) g h i j k l m o) else (Z122.j2 R N n a b c d e f false g h i j k l m o)) := (hw _ _).trans (by kernel_rfl)
theorem Z122.j0_eq (R:Run) (hw:R.ok) (N:Nat) (a:vM) (b c d e f g:Int) (h:(List Int)):Z122.j0 R N a b c d e f g h = (Z122.l1 R N N a a.1 a.2.2.1 (1:Int) (0:Int) (0:Int) b c d e f g ([]:List Int) h) := (hw _ _).trans (by kernel_rfl)
theorem Z122.ev (R:Run) (N:Nat) (a0:vM):qro E R sg_Z122 pol_Z122 F_Z122 N [⟨(.ptr yM),a0⟩] = (qpU ((qlR R n_Z103 o_Z103 [⟨yL,a0.2.2.2.1⟩]).bind fun r1 => (Z122.j0 R N a0 (0:Int) (0:Int) (0:Int) a0.1 a0.2.1 a0.2.2.1 r1.1)) ((qlR R n_Z103 o_Z103 [⟨yL,a0.2.2.2.1⟩]).bind fun r359 => (Z122.j0 R N a0 (0:Int) (0:Int) (0:Int) a0.1 a0.2.1 a0.2.2.1 r359.1))) := by kernel_rfl
theorem Z121.ev (R:Run) (N:Nat) (a0:vM):qro E R sg_Z121 pol_Z121 F_Z121 N [⟨(.ptr yM),a0⟩] = ((qlR R n_Z122 o_Z122 [⟨(.ptr yM),a0⟩]).bind fun r1 => some ⟨o_Z121,((List.length r1.2.2.2.2.1:Int),())⟩) := by kernel_rfl
def Z147.l1 (R:Run) (N a n:Nat) (b e f g h i j k l m:Int) (o:(List Int)) (p q:Int) (r:(List Int)):Option Dv := R.w (some ⟨(.c (.box 60 0)::(.c (.d yI b)::(.c (.d yI e)::(zd 3 (.c (.box 6 0)::(V.dead::(.c (.box 8 0)::(.c (.d yI f)::(.c (.d yI g)::(zd 49 [])))))))))),(zo 6 (some (.box [.d yI h,.d yI i,.d yI j,.nils yI] false false)::(none::(some (.box [.d yI k,.d yI l,.d yI m,.arr 64] false false)::(zo 51 (some (.box [.d (.sl (.int .u8)) o,.d yI p,.d (.int .u64) q] false true)::(zo 3 (some (.arr yI r true false false)::[]))))))))⟩) fun st => lC R pol_Z147 10 N [1,1,1,1,0,1,0,0,1,0,0,1,1,0,0] F_Z147 n st (kB R pol_Z147 2 (kB R pol_Z147 1 (kS R pol_Z147 7 N [1,1,1,1,0,1,0,0,1,1] F_Z147 (kL R pol_Z147 6 N [1,1,1,1,0,1,0,0] F_Z147 a (kB R pol_Z147 0 (kS R pol_Z147 13 N [1,1,1,1,1] F_Z147 (qrY E sg_Z147 F_Z147)))))))
def Z147.l0 (R:Run) (N n:Nat) (a b e f g h i j k:Int) (l:(List Int)) (m o:Int) (p:(List Int)):Option Dv := R.w (some ⟨(.c (.box 60 0)::(.c (.d yI a)::(.c (.d yI b)::(zd 3 (.c (.box 6 0)::(V.dead::(.c (.box 8 0)::(.c (.d yI e)::(zd 50 []))))))))),(zo 6 (some (.box [.d yI f,.d yI g,.d yI h,.nils yI] false false)::(none::(some (.box [.d yI i,.d yI j,.d yI k,.arr 64] false false)::(zo 51 (some (.box [.d (.sl (.int .u8)) l,.d yI m,.d (.int .u64) o] false true)::(zo 3 (some (.arr yI p true false false)::[]))))))))⟩) fun st => lC R pol_Z147 6 N [1,1,1,1,0,1,0,0] F_Z147 n st (kB R pol_Z147 0 (kS R pol_Z147 13 N [1,1,1,1,1] F_Z147 (qrY E sg_Z147 F_Z147)))
theorem Z147.l1_succ (R:Run) (hw:R.ok) (N a n:Nat) (b c d e f g h i j k:Int) (l:(List Int)) (m o:Int) (p:(List Int)):Z147.l1 R N a (n + 1) b c d e f g h i j k l m o p = (bif (decide (e < c)) then ((qlR R n_Z110 o_Z110 [⟨(.ptr (.cons (.sl (.int .u8)) (.cons yI (.cons (.int .u64) .nil)))),(l,m,o,())⟩,⟨yI,b⟩]).bind fun r32 => ((chk (decide (0 ≤ (w64 ((w64 (d * c)) + e))) && decide ((w64 ((w64 (d * c)) + e)) < (List.length p:Int)))).bind fun _ => (Z147.l1 R N a n b c d (w64 (e + (1:Int))) f g h i j k r32.2.1.1 r32.2.1.2.1 r32.2.1.2.2.1 (List.set p (Int.toNat (w64 ((w64 (d * c)) + e))) r32.1)))) else (Z147.l0 R N a b c (w64 (d + (1:Int))) f g h i j k l m o p)) := (hw _ _).trans (by kernel_rfl)
theorem Z147.l0_succ (R:Run) (hw:R.ok) (N n:Nat) (a b c d e f g h i:Int) (j:(List Int)) (k l:Int) (m:(List Int)):Z147.l0 R N (n + 1) a b c d e f g h i j k l m = (bif (decide (c < b)) then ((qlR R n_Z110 o_Z110 [⟨(.ptr (.cons (.sl (.int .u8)) (.cons yI (.cons (.int .u64) .nil)))),(j,k,l,())⟩,⟨yI,(w64 (a - (1:Int)))⟩]).bind fun r17 => ((chk (decide (0 ≤ (w64 ((w64 (c * b)) + c))) && decide ((w64 ((w64 (c * b)) + c)) < (List.length m:Int)))).bind fun _ => (Z147.l1 R N n N a b c (w64 (c + (1:Int))) d e f g h i r17.2.1.1 r17.2.1.2.1 r17.2.1.2.2.1 (List.set m (Int.toNat (w64 ((w64 (c * b)) + c))) (w64 ((1:Int) + r17.1)))))) else some ⟨o_Z147,(g,h,i,m,(j,k,l,()),())⟩) := (hw _ _).trans (by kernel_rfl)
theorem Z147.ev (R:Run) (N:Nat) (a0:((List Int) × Int × Int × Unit)) (a1 a2:Int):qro E R sg_Z147 pol_Z147 F_Z147 N [⟨(.ptr (.cons (.sl (.int .u8)) (.cons yI (.cons (.int .u64) .nil)))),a0⟩,⟨yI,a1⟩,⟨yI,a2⟩] = ((qlR R n_Z115 o_Z115 [⟨(.ptr (.cons (.sl (.int .u8)) (.cons yI (.cons (.int .u64) .nil)))),(a0.1,a0.2.1,a0.2.2.1,())⟩,⟨yI,a1⟩,⟨yI,a2⟩,⟨yI,a2⟩]).bind fun r1 => ((qlR R n_Z121 o_Z121 [⟨(.ptr yM),(r1.1,r1.2.1,r1.2.2.1,r1.2.2.2.1,())⟩]).bind fun r2 => (bif (r2.1 == a2) then some ⟨o_Z147,(r1.1,r1.2.1,r1.2.2.1,r1.2.2.2.1,(r1.2.2.2.2.1.1,r1.2.2.2.2.1.2.1,r1.2.2.2.2.1.2.2.1,()),())⟩ else ((qlR R n_Z125 o_Z125 [⟨yI,a1⟩,⟨yI,a2⟩]).bind fun r3 => (Z147.l0 R N N a1 a2 (0:Int) (0:Int) (0:Int) (0:Int) r3.1 r3.2.1 r3.2.2.1 r1.2.2.2.2.1.1 r1.2.2.2.2.1.2.1 r1.2.2.2.2.1.2.2.1 r3.2.2.2.1))))) := by kernel_rfl
theorem Z102.ev (R:Run) (N:Nat) (a0 a1 a2:Int):qro E R sg_Z102 pol_Z102 F_Z102 N [⟨yI,a0⟩,⟨yI,a1⟩,⟨yI,a2⟩] = (bif (decide (a0 ≥ a1)) then some ⟨o_Z102,((decide (a0 ≤ a2)),())⟩ else some ⟨o_Z102,(false,())⟩) := by kernel_rfl
def Z112.l0 (R:Run) (N n:Nat) (a b:Int):Option Dv := R.w (some ⟨(.c (.d yI a)::(V.dead::(V.dead::(.c (.d yI b)::(zd 14 []))))),(zo 19 [])⟩) fun st => lC R pol_Z112 4 N [1,1,0,1,0,0] F_Z112 n st (kB R pol_Z112 0 (kS R pol_Z112 8 N [1,1,1] F_Z112 (qrY E sg_Z112 F_Z112)))
theorem Z112.l0_succ (R:Run) (hw:R.ok) (N n:Nat) (a b:Int):Z112.l0 R N (n + 1) a b = (bif (decide ((w64 (b * b)) ≤ a)) then ((chk (b != 0)).bind fun _ => (bif ((Int.tmod a b) == (0:Int)) then some ⟨o_Z112,(false,())⟩ else (Z112.l0 R N n a (w64 (b + (1:Int)))))) else some ⟨o_Z112,(true,())⟩) := (hw _ _).trans (by kernel_rfl)
theorem Z112.ev (R:Run) (N:Nat) (a0:Int):qro E R sg_Z112 pol_Z112 F_Z112 N [⟨yI,a0⟩] = ((qlR R n_Z102 o_Z102 [⟨yI,a0⟩,⟨yI,(2:Int)⟩,⟨yI,(251:Int)⟩]).bind fun r1 => (bif (!r1.1) then some ⟨o_Z112,(false,())⟩ else (Z112.l0 R N N a0 (2:Int)))) := by kernel_rfl
theorem Z99.ev (R:Run) (N:Nat) (a0:Int):qro E R sg_Z99 pol_Z99 F_Z99 N [⟨yI,a0⟩] = ((qlR R n_Z112 o_Z112 [⟨yI,a0⟩]).bind fun r1 => some ⟨o_Z99,(r1.1,())⟩) := by kernel_rfl
def Z114.l0 (R:Run) (N n:Nat) (a:(List Int)) (b e f:Int):Option Dv := R.w (some ⟨(.c (.d yL a)::(.c (.d yI b)::(.c (.d yI e)::(zd 4 (.c (.d yI f)::(zd 18 [])))))),(zo 29 [])⟩) fun st => lC R pol_Z114 2 N [1,0,1,0,0] F_Z114 n st (kB R pol_Z114 0 (kS R pol_Z114 6 N [1,1] F_Z114 (qrY E sg_Z114 F_Z114)))
theorem Z114.l0_succ (R:Run) (hw:R.ok) (N n:Nat) (a:(List Int)) (b c d:Int):Z114.l0 R N (n + 1) a b c d = (bif (decide (d < (List.length a:Int))) then ((idx? a d).bind fun y5 => ((qlR R n_Z102 o_Z102 [⟨yI,(y5,()).1⟩,⟨yI,(0:Int)⟩,⟨yI,(w64 (c - (1:Int)))⟩]).bind fun r6 => (bif (!r6.1) then some ⟨o_Z114,(false,())⟩ else (Z114.l0 R N n a b c (w64 (d + (1:Int))))))) else some ⟨o_Z114,(((List.length a:Int) == b),())⟩) := (hw _ _).trans (by kernel_rfl)
theorem Z114.ev (R:Run) (N:Nat) (a0:(List Int)) (a1 a2:Int):qro E R sg_Z114 pol_Z114 F_Z114 N [⟨yL,a0⟩,⟨yI,a1⟩,⟨yI,a2⟩] = (Z114.l0 R N N a0 a1 a2 (0:Int)) := by kernel_rfl
theorem Z120.ev (R:Run) (N:Nat) (a0:vM):qro E R sg_Z120 pol_Z120 F_Z120 N [⟨(.ptr yM),a0⟩] = ((qlR R n_Z99 o_Z99 [⟨yI,a0.1⟩]).bind fun r1 => (bif r1.1 then ((qlR R n_Z102 o_Z102 [⟨yI,a0.2.1⟩,⟨yI,(0:Int)⟩,⟨yI,(32:Int)⟩]).bind fun r2 => (bif r2.1 then ((qlR R n_Z102 o_Z102 [⟨yI,a0.2.2.1⟩,⟨yI,(0:Int)⟩,⟨yI,(32:Int)⟩]).bind fun r3 => (bif r3.1 then ((qlR R n_Z114 o_Z114 [⟨yL,a0.2.2.2.1⟩,⟨yI,(w64 (a0.2.1 * a0.2.2.1))⟩,⟨yI,a0.1⟩]).bind fun r4 => some ⟨o_Z120,(r4.1,())⟩) else some ⟨o_Z120,(false,())⟩)) else some ⟨o_Z120,(false,())⟩)) else some ⟨o_Z120,(false,())⟩)) := by kernel_rfl
def Z117.l1 (R:Run) (N n:Nat) (a b:vM) (e f g h i j k:Int) (l:(List Int)):Option Dv := R.w (some ⟨(.c (.ip yM a 0)::(.c (.ip yM b 0)::(V.dead::(V.dead::(.c (.box 4 0)::(.c (.box 5 0)::(.c (.d yI e)::(zd 72 [])))))))),(zo 4 (some (.box [.d yI f,.d yI g,.d yI h,.nils yI] false false)::(some (.box [.d yI i,.d yI j,.d yI k,.arr 24] false false)::(zo 18 (some (.arr yI l true false false)::(zo 56 []))))))⟩) fun st => lC R pol_Z117 3 N [1,1,0,1,0,0] F_Z117 n st (kB R pol_Z117 0 (kS R pol_Z117 7 N [1,1,1] F_Z117 (qrY E sg_Z117 F_Z117)))
def Z117.j0 (R:Run) (N:Nat) (a b:vM) (e f g h i j:Int) (k:(List Int)):Option Dv := R.w (some ⟨(.c (.ip yM a 0)::(.c (.ip yM b 0)::(V.dead::(V.dead::(.c (.box 4 0)::(.c (.box 5 0)::(zd 73 []))))))),(zo 4 (some (.box [.d yI e,.d yI f,.d yI g,.nils yI] false false)::(some (.box [.d yI h,.d yI i,.d yI j,.arr 24] false false)::(zo 18 (some (.arr yI k true false false)::(zo 56 []))))))⟩) fun st => eC R pol_Z117 N [1,1] F_Z117 st (qrY E sg_Z117 F_Z117)
theorem Z117.l1_succ (R:Run) (hw:R.ok) (N n:Nat) (a b:vM) (c d e f g h i:Int) (j:(List Int)):Z117.l1 R N (n + 1) a b c d e f g h i j = (bif (decide (c < a.2.1)) then ((chk (decide (0 ≤ (w64 (c * a.2.2.1))) && decide ((w64 (c * a.2.2.1)) ≤ (w64 ((w64 (c + (1:Int))) * a.2.2.1))) && decide ((w64 ((w64 (c + (1:Int))) * a.2.2.1)) ≤ (List.length a.2.2.2.1:Int)))).bind fun _ => ((chk (decide ((List.length j + List.length (List.drop (Int.toNat (w64 (c * a.2.2.1))) (List.take (Int.toNat (w64 ((w64 (c + (1:Int))) * a.2.2.1))) a.2.2.2.1))) * 8 ≤ 70368744177664))).bind fun _ => ((chk (decide (0 ≤ (w64 (c * b.2.2.1))) && decide ((w64 (c * b.2.2.1)) ≤ (w64 ((w64 (c + (1:Int))) * b.2.2.1))) && decide ((w64 ((w64 (c + (1:Int))) * b.2.2.1)) ≤ (List.length b.2.2.2.1:Int)))).bind fun _ => ((chk (decide ((List.length (j ++ (List.drop (Int.toNat (w64 (c * a.2.2.1))) (List.take (Int.toNat (w64 ((w64 (c + (1:Int))) * a.2.2.1))) a.2.2.2.1))) + List.length (List.drop (Int.toNat (w64 (c * b.2.2.1))) (List.take (Int.toNat (w64 ((w64 (c + (1:Int))) * b.2.2.1))) b.2.2.2.1))) * 8 ≤ 70368744177664))).bind fun _ => (Z117.l1 R N n a b (w64 (c + (1:Int))) d e f g h i ((j ++ (List.drop (Int.toNat (w64 (c * a.2.2.1))) (List.take (Int.toNat (w64 ((w64 (c + (1:Int))) * a.2.2.1))) a.2.2.2.1))) ++ (List.drop (Int.toNat (w64 (c * b.2.2.1))) (List.take (Int.toNat (w64 ((w64 (c + (1:Int))) * b.2.2.1))) b.2.2.2.1)))))))) else some ⟨o_Z117,(g,h,i,j,())⟩) := (hw _ _).trans (by kernel_rfl)
theorem Z117.j0_eq (R:Run) (hw:R.ok) (N:Nat) (a b:vM) (c d e f g h:Int) (i:(List Int)):Z117.j0 R N a b c d e f g h i = (Z117.l1 R N N a b (0:Int) c d e f g h i) := (hw _ _).trans (by kernel_rfl)
theorem Z117.ev (R:Run) (N:Nat) (a0 a1:vM):qro E R sg_Z117 pol_Z117 F_Z117 N [⟨(.ptr yM),a0⟩,⟨(.ptr yM),a1⟩] = (qpU (Z117.j0 R N a0 a1 (0:Int) (0:Int) (0:Int) a0.1 a0.2.1 (w64 (a0.2.2.1 + a1.2.2.1)) ([]:List Int)) (Z117.j0 R N a0 a1 (0:Int) (0:Int) (0:Int) a0.1 a0.2.1 (w64 (a0.2.2.1 + a1.2.2.1)) ([]:List Int))) := by kernel_rfl
end
end VeT
