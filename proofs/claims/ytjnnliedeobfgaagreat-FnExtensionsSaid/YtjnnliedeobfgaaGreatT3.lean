import Derived.Test.YtjnnliedeobfgaaGreatV2
import Derived.Test.YtjnnliedeobfgaaGreatProg
import Derived.KernelRfl
set_option linter.unusedVariables false
set_option linter.unusedSimpArgs false
open Go Go.Proofs Ve
set_option maxRecDepth 100000
namespace VeT
abbrev yM : Ty := .cons (.int .i64) (.cons (.int .i64) (.cons (.int .i64) (.cons (.sl (.int .i64)) .nil)))
abbrev yI : Ty := .int .i64
abbrev yL : Ty := .sl yI
abbrev yK : Ty := .sl yL
abbrev yN : Ty := .sl (.st yM)
abbrev yS : Ty := .cons yK (.cons yI (.cons yL (.cons yN .nil)))
abbrev yR : Ty := .cons (.sl (.int .u8)) (.cons yI (.cons (.int .u64) .nil))
abbrev yC : Ty := .cons yK .nil
abbrev vM := Int × Int × Int × List Int × Unit
abbrev vK := List (List Int)
abbrev vN := List vM
abbrev vS := vK × Int × List Int × vN × Unit
noncomputable section
def bodyOf(f:Func):Code:=f.body.getD .skip
def zd:Nat→List Ve.V→List Ve.V
  | 0,t=>t
  | n+1,t=>V.dead::zd n t
def zo:Nat→List (Option Ve.Obj)→List (Option Ve.Obj)
  | 0,t=>t
  | n+1,t=>none::zo n t
abbrev n_Z91:Nat:=10
abbrev n_Z92:Nat:=24
abbrev n_Z93:Nat:=29
abbrev n_Z10:Nat:=41
abbrev n_Z121:Nat:=47
abbrev n_Z9:Nat:=67
abbrev n_Z119:Nat:=71
abbrev n_Z5:Nat:=72
abbrev n_Z8:Nat:=73
abbrev n_Z124:Nat:=74
abbrev n_Z6:Nat:=75
abbrev n_Z120:Nat:=76
abbrev n_Z7:Nat:=77
abbrev n_Z125:Nat:=78
abbrev n_Z174:Nat:=79
abbrev n_Z180:Nat:=82
abbrev n_Z184:Nat:=84
abbrev n_Z136:Nat:=85
abbrev n_Z142:Nat:=92
abbrev n_Z23:Nat:=94
abbrev n_Z30:Nat:=95
abbrev n_Z21:Nat:=96
abbrev n_Z78:Nat:=103
abbrev n_Z14:Nat:=108
abbrev n_Z81:Nat:=111
abbrev n_Z64:Nat:=112
abbrev n_Z17:Nat:=113
abbrev n_Z87:Nat:=114
abbrev n_Z27:Nat:=115
abbrev n_Z84:Nat:=119
abbrev n_Z165:Nat:=120
abbrev n_Z123:Nat:=121
abbrev n_Z164:Nat:=125
abbrev n_Z77:Nat:=128
abbrev n_Z101:Nat:=129
abbrev n_Z53:Nat:=132
abbrev n_Z118:Nat:=133
abbrev n_Z18:Nat:=134
abbrev n_Z88:Nat:=135
abbrev n_Z89:Nat:=137
abbrev n_Z169:Nat:=138
abbrev n_Z191:Nat:=139
abbrev n_Z69:Nat:=140
abbrev n_Z68:Nat:=141
abbrev n_Z58:Nat:=142
abbrev n_Z76:Nat:=143
abbrev n_Z74:Nat:=144
abbrev n_Z66:Nat:=145
abbrev n_Z177:Nat:=148
abbrev n_Z195:Nat:=149
abbrev n_Z187:Nat:=150
abbrev n_Z189:Nat:=151
abbrev n_Z107:Nat:=155
abbrev n_Z167:Nat:=156
abbrev n_Z163:Nat:=157
abbrev n_Z153:Nat:=160
abbrev n_Z152:Nat:=161
abbrev n_Z194:Nat:=163
abbrev n_Z192:Nat:=165
abbrev n_Z65:Nat:=170
abbrev n_Z34:Nat:=171
abbrev n_Z190:Nat:=172
abbrev n_Z80:Nat:=173
abbrev n_Z33:Nat:=174
abbrev n_Z98:Nat:=175
abbrev n_Z197:Nat:=176
abbrev n_Z188:Nat:=177
abbrev n_Z52:Nat:=178
abbrev n_Z133:Nat:=179
abbrev n_Z56:Nat:=180
abbrev n_Z79:Nat:=181
abbrev n_Z86:Nat:=182
abbrev n_Z48:Nat:=183
abbrev n_Z36:Nat:=184
abbrev n_Z67:Nat:=185
abbrev n_Z173:Nat:=186
abbrev n_Z171:Nat:=187
abbrev n_Z170:Nat:=188
abbrev n_Z179:Nat:=189
abbrev n_Z168:Nat:=190
abbrev n_Z144:Nat:=191
abbrev n_Z183:Nat:=193
abbrev n_Z172:Nat:=194
abbrev n_Z178:Nat:=195
abbrev n_Z181:Nat:=196
abbrev n_Z127:Nat:=197
abbrev n_Z134:Nat:=198
abbrev n_Z62:Nat:=199
abbrev n_Z82:Nat:=201
abbrev n_Z31:Nat:=203
abbrev n_Z143:Nat:=205
abbrev n_Z155:Nat:=206
abbrev n_Z162:Nat:=207
abbrev n_Z175:Nat:=209
abbrev n_Z38:Nat:=211
abbrev n_Z12:Nat:=212
abbrev n_Z41:Nat:=213
abbrev n_Z37:Nat:=214
abbrev n_Z49:Nat:=215
abbrev n_Z11:Nat:=216
abbrev n_Z22:Nat:=217
abbrev n_Z135:Nat:=218
abbrev n_Z129:Nat:=222
abbrev n_Z147:Nat:=228
abbrev n_Z19:Nat:=229
abbrev n_Z32:Nat:=230
abbrev n_Z99:Nat:=231
abbrev n_Z42:Nat:=232
abbrev n_Z15:Nat:=233
abbrev n_Z39:Nat:=237
abbrev n_Z106:Nat:=238
abbrev n_Z73:Nat:=239
abbrev n_Z28:Nat:=240
abbrev n_Z96:Nat:=241
abbrev n_Z29:Nat:=242
abbrev n_Z43:Nat:=244
abbrev n_Z85:Nat:=245
abbrev n_Z158:Nat:=246
abbrev n_Z161:Nat:=247
abbrev n_Z141:Nat:=248
abbrev n_Z150:Nat:=249
abbrev n_Z159:Nat:=250
abbrev n_Z160:Nat:=251
abbrev n_Z112:Nat:=253
abbrev n_Z94:Nat:=254
abbrev n_Z55:Nat:=255
abbrev n_Z71:Nat:=256
abbrev n_Z13:Nat:=257
abbrev n_Z90:Nat:=258
abbrev n_Z26:Nat:=259
abbrev n_Z59:Nat:=260
abbrev n_Z75:Nat:=261
abbrev n_Z196:Nat:=264
abbrev n_Z182:Nat:=265
abbrev n_Z132:Nat:=266
abbrev n_Z186:Nat:=267
abbrev n_Z156:Nat:=268
abbrev n_Z198:Nat:=269
abbrev n_Z199:Nat:=270
abbrev n_Z200:Nat:=271
abbrev n_Z131:Nat:=274
abbrev n_Z149:Nat:=275
abbrev n_Z157:Nat:=276
abbrev n_Z138:Nat:=277
abbrev n_Z139:Nat:=279
abbrev n_Z137:Nat:=280
abbrev n_Z51:Nat:=282
abbrev n_Z35:Nat:=284
abbrev n_Z108:Nat:=285
abbrev n_Z193:Nat:=286
abbrev n_Z154:Nat:=287
abbrev n_Z176:Nat:=288
abbrev n_Z122:Nat:=289
abbrev n_Z24:Nat:=290
abbrev n_Z83:Nat:=292
abbrev n_Z50:Nat:=293
abbrev n_Z151:Nat:=298
abbrev n_Z126:Nat:=299
abbrev n_Z148:Nat:=300
abbrev n_Z60:Nat:=301
abbrev n_Z20:Nat:=302
abbrev n_Z63:Nat:=303
abbrev n_Z2:Nat:=304
abbrev n_Z0:Nat:=305
abbrev n_Z97:Nat:=306
abbrev n_Z109:Nat:=307
abbrev n_Z40:Nat:=310
abbrev n_Z54:Nat:=311
abbrev n_Z166:Nat:=312
abbrev n_Z130:Nat:=313
abbrev n_Z16:Nat:=314
abbrev n_Z72:Nat:=315
abbrev n_Z185:Nat:=316
abbrev n_Z140:Nat:=318
abbrev n_Z128:Nat:=319
abbrev n_Z146:Nat:=320
abbrev n_Z25:Nat:=321
abbrev n_Z57:Nat:=322
abbrev n_Z145:Nat:=326
abbrev n_Z3:Nat:=327
abbrev n_Z1:Nat:=328
abbrev n_Z70:Nat:=340
abbrev n_Z61:Nat:=341
abbrev n_Z4:Nat:=351
abbrev F_Z91:Func:=Tryz.f10
abbrev F_Z92:Func:=Tryz.f24
abbrev F_Z93:Func:=Tryz.f29
abbrev F_Z10:Func:=Tryz.f41
abbrev F_Z121:Func:=Tryz.f47
abbrev F_Z9:Func:=Tryz.f67
abbrev F_Z119:Func:=Tryz.f71
abbrev F_Z5:Func:=Tryz.f72
abbrev F_Z8:Func:=Tryz.f73
abbrev F_Z124:Func:=Tryz.f74
abbrev F_Z6:Func:=Tryz.f75
abbrev F_Z120:Func:=Tryz.f76
abbrev F_Z7:Func:=Tryz.f77
abbrev F_Z125:Func:=Tryz.f78
abbrev F_Z174:Func:=Tryz.f79
abbrev F_Z180:Func:=Tryz.f82
abbrev F_Z184:Func:=Tryz.f84
abbrev F_Z136:Func:=Tryz.f85
abbrev F_Z142:Func:=Tryz.f92
abbrev F_Z23:Func:=Tryz.f94
abbrev F_Z30:Func:=Tryz.f95
abbrev F_Z21:Func:=Tryz.f96
abbrev F_Z78:Func:=Tryz.f103
abbrev F_Z14:Func:=Tryz.f108
abbrev F_Z81:Func:=Tryz.f111
abbrev F_Z64:Func:=Tryz.f112
abbrev F_Z17:Func:=Tryz.f113
abbrev F_Z87:Func:=Tryz.f114
abbrev F_Z27:Func:=Tryz.f115
abbrev F_Z84:Func:=Tryz.f119
abbrev F_Z165:Func:=Tryz.f120
abbrev F_Z123:Func:=Tryz.f121
abbrev F_Z164:Func:=Tryz.f125
abbrev F_Z77:Func:=Tryz.f128
abbrev F_Z101:Func:=Tryz.f129
abbrev F_Z53:Func:=Tryz.f132
abbrev F_Z118:Func:=Tryz.f133
abbrev F_Z18:Func:=Tryz.f134
abbrev F_Z88:Func:=Tryz.f135
abbrev F_Z89:Func:=Tryz.f137
abbrev F_Z169:Func:=Tryz.f138
abbrev F_Z191:Func:=Tryz.f139
abbrev F_Z69:Func:=Tryz.f140
abbrev F_Z68:Func:=Tryz.f141
abbrev F_Z58:Func:=Tryz.f142
abbrev F_Z76:Func:=Tryz.f143
abbrev F_Z74:Func:=Tryz.f144
abbrev F_Z66:Func:=Tryz.f145
abbrev F_Z177:Func:=Tryz.f148
abbrev F_Z195:Func:=Tryz.f149
abbrev F_Z187:Func:=Tryz.f150
abbrev F_Z189:Func:=Tryz.f151
abbrev F_Z107:Func:=Tryz.f155
abbrev F_Z167:Func:=Tryz.f156
abbrev F_Z163:Func:=Tryz.f157
abbrev F_Z153:Func:=Tryz.f160
abbrev F_Z152:Func:=Tryz.f161
abbrev F_Z194:Func:=Tryz.f163
abbrev F_Z192:Func:=Tryz.f165
abbrev F_Z65:Func:=Tryz.f170
abbrev F_Z34:Func:=Tryz.f171
abbrev F_Z190:Func:=Tryz.f172
abbrev F_Z80:Func:=Tryz.f173
abbrev F_Z33:Func:=Tryz.f174
abbrev F_Z98:Func:=Tryz.f175
abbrev F_Z197:Func:=Tryz.f176
abbrev F_Z188:Func:=Tryz.f177
abbrev F_Z52:Func:=Tryz.f178
abbrev F_Z133:Func:=Tryz.f179
abbrev F_Z56:Func:=Tryz.f180
abbrev F_Z79:Func:=Tryz.f181
abbrev F_Z86:Func:=Tryz.f182
abbrev F_Z48:Func:=Tryz.f183
abbrev F_Z36:Func:=Tryz.f184
abbrev F_Z67:Func:=Tryz.f185
abbrev F_Z173:Func:=Tryz.f186
abbrev F_Z171:Func:=Tryz.f187
abbrev F_Z170:Func:=Tryz.f188
abbrev F_Z179:Func:=Tryz.f189
abbrev F_Z168:Func:=Tryz.f190
abbrev F_Z144:Func:=Tryz.f191
abbrev F_Z183:Func:=Tryz.f193
abbrev F_Z172:Func:=Tryz.f194
abbrev F_Z178:Func:=Tryz.f195
abbrev F_Z181:Func:=Tryz.f196
abbrev F_Z127:Func:=Tryz.f197
abbrev F_Z134:Func:=Tryz.f198
abbrev F_Z62:Func:=Tryz.f199
abbrev F_Z82:Func:=Tryz.f201
abbrev F_Z31:Func:=Tryz.f203
abbrev F_Z143:Func:=Tryz.f205
abbrev F_Z155:Func:=Tryz.f206
abbrev F_Z162:Func:=Tryz.f207
abbrev F_Z175:Func:=Tryz.f209
abbrev F_Z38:Func:=Tryz.f211
abbrev F_Z12:Func:=Tryz.f212
abbrev F_Z41:Func:=Tryz.f213
abbrev F_Z37:Func:=Tryz.f214
abbrev F_Z49:Func:=Tryz.f215
abbrev F_Z11:Func:=Tryz.f216
abbrev F_Z22:Func:=Tryz.f217
abbrev F_Z135:Func:=Tryz.f218
abbrev F_Z129:Func:=Tryz.f222
abbrev F_Z147:Func:=Tryz.f228
abbrev F_Z19:Func:=Tryz.f229
abbrev F_Z32:Func:=Tryz.f230
abbrev F_Z99:Func:=Tryz.f231
abbrev F_Z42:Func:=Tryz.f232
abbrev F_Z15:Func:=Tryz.f233
abbrev F_Z39:Func:=Tryz.f237
abbrev F_Z106:Func:=Tryz.f238
abbrev F_Z73:Func:=Tryz.f239
abbrev F_Z28:Func:=Tryz.f240
abbrev F_Z96:Func:=Tryz.f241
abbrev F_Z29:Func:=Tryz.f242
abbrev F_Z43:Func:=Tryz.f244
abbrev F_Z85:Func:=Tryz.f245
abbrev F_Z158:Func:=Tryz.f246
abbrev F_Z161:Func:=Tryz.f247
abbrev F_Z141:Func:=Tryz.f248
abbrev F_Z150:Func:=Tryz.f249
abbrev F_Z159:Func:=Tryz.f250
abbrev F_Z160:Func:=Tryz.f251
abbrev F_Z112:Func:=Tryz.f253
abbrev F_Z94:Func:=Tryz.f254
abbrev F_Z55:Func:=Tryz.f255
abbrev F_Z71:Func:=Tryz.f256
abbrev F_Z13:Func:=Tryz.f257
abbrev F_Z90:Func:=Tryz.f258
abbrev F_Z26:Func:=Tryz.f259
abbrev F_Z59:Func:=Tryz.f260
abbrev F_Z75:Func:=Tryz.f261
abbrev F_Z196:Func:=Tryz.f264
abbrev F_Z182:Func:=Tryz.f265
abbrev F_Z132:Func:=Tryz.f266
abbrev F_Z186:Func:=Tryz.f267
abbrev F_Z156:Func:=Tryz.f268
abbrev F_Z198:Func:=Tryz.f269
abbrev F_Z199:Func:=Tryz.f270
abbrev F_Z200:Func:=Tryz.f271
abbrev F_Z131:Func:=Tryz.f274
abbrev F_Z149:Func:=Tryz.f275
abbrev F_Z157:Func:=Tryz.f276
abbrev F_Z138:Func:=Tryz.f277
abbrev F_Z139:Func:=Tryz.f279
abbrev F_Z137:Func:=Tryz.f280
abbrev F_Z51:Func:=Tryz.f282
abbrev F_Z35:Func:=Tryz.f284
abbrev F_Z108:Func:=Tryz.f285
abbrev F_Z193:Func:=Tryz.f286
abbrev F_Z154:Func:=Tryz.f287
abbrev F_Z176:Func:=Tryz.f288
abbrev F_Z122:Func:=Tryz.f289
abbrev F_Z24:Func:=Tryz.f290
abbrev F_Z83:Func:=Tryz.f292
abbrev F_Z50:Func:=Tryz.f293
abbrev F_Z151:Func:=Tryz.f298
abbrev F_Z126:Func:=Tryz.f299
abbrev F_Z148:Func:=Tryz.f300
abbrev F_Z60:Func:=Tryz.f301
abbrev F_Z20:Func:=Tryz.f302
abbrev F_Z63:Func:=Tryz.f303
abbrev F_Z2:Func:=Tryz.f304
abbrev F_Z0:Func:=Tryz.f305
abbrev F_Z97:Func:=Tryz.f306
abbrev F_Z109:Func:=Tryz.f307
abbrev F_Z40:Func:=Tryz.f310
abbrev F_Z54:Func:=Tryz.f311
abbrev F_Z166:Func:=Tryz.f312
abbrev F_Z130:Func:=Tryz.f313
abbrev F_Z16:Func:=Tryz.f314
abbrev F_Z72:Func:=Tryz.f315
abbrev F_Z185:Func:=Tryz.f316
abbrev F_Z140:Func:=Tryz.f318
abbrev F_Z128:Func:=Tryz.f319
abbrev F_Z146:Func:=Tryz.f320
abbrev F_Z25:Func:=Tryz.f321
abbrev F_Z57:Func:=Tryz.f322
abbrev F_Z145:Func:=Tryz.f326
abbrev F_Z3:Func:=Tryz.f327
abbrev F_Z1:Func:=Tryz.f328
abbrev F_Z70:Func:=Tryz.f340
abbrev F_Z61:Func:=Tryz.f341
abbrev F_Z4:Func:=Tryz.f351
abbrev o_Z91:Ty:=(.cons .bool .nil)
def sg_Z91:Sig:=⟨[(false,1),(false,1)],[],o_Z91,[(false,1)],[],[]⟩
abbrev o_Z92:Ty:=(.cons .bool .nil)
def sg_Z92:Sig:=⟨[(false,1)],[],o_Z92,[(false,1)],[],[]⟩
abbrev o_Z93:Ty:=(.cons .bool .nil)
def sg_Z93:Sig:=⟨[(false,1),(false,1)],[],o_Z93,[(false,1)],[],[]⟩
abbrev o_Z10:Ty:=(.cons .bool .nil)
def sg_Z10:Sig:=⟨[(true,4)],[],o_Z10,[(false,1)],[],[]⟩
abbrev o_Z121:Ty:=(.cons yK (.cons yI .nil))
def sg_Z121:Sig:=⟨[(true,4)],[],o_Z121,[(false,1),(false,1)],[.deep,.imm],[]⟩
abbrev o_Z9:Ty:=(.cons .bool .nil)
def sg_Z9:Sig:=⟨[(true,4),(false,1),(false,1)],[],o_Z9,[(false,1)],[],[]⟩
abbrev o_Z119:Ty:=(.cons yK (.cons yI (.cons yL (.cons yN (.cons yL (.cons yL .nil))))))
def sg_Z119:Sig:=⟨[(false,1)],[],o_Z119,[(true,4),(false,1),(false,1)],[.imm,.imm,.imm,.imm,.deep,.deep],[]⟩
abbrev o_Z5:Ty:=(.cons yL (.cons yI .nil))
def sg_Z5:Sig:=⟨[(true,4),(false,1),(false,1)],[],o_Z5,[(false,1),(false,1)],[.deep,.imm],[]⟩
abbrev o_Z8:Ty:=(.cons yI (.cons yI (.cons yI .nil)))
def sg_Z8:Sig:=⟨[(true,4),(false,1),(false,1)],[],o_Z8,[(false,1),(false,1),(false,1)],[],[]⟩
abbrev o_Z124:Ty:=(.cons yL (.cons yI .nil))
def sg_Z124:Sig:=⟨[(true,4),(false,1),(false,1)],[],o_Z124,[(false,1),(false,1)],[.deep,.imm],[]⟩
abbrev o_Z6:Ty:=(.cons yI (.cons yI .nil))
def sg_Z6:Sig:=⟨[(true,4),(false,1)],[],o_Z6,[(false,1),(false,1)],[],[]⟩
abbrev o_Z120:Ty:=(.cons yK (.cons yI (.cons yL (.cons yN (.cons yI .nil)))))
def sg_Z120:Sig:=⟨[(false,1)],[],o_Z120,[(true,4),(false,1)],[],[]⟩
abbrev o_Z7:Ty:=(.cons yL (.cons yI .nil))
def sg_Z7:Sig:=⟨[(true,4),(false,1)],[],o_Z7,[(false,1),(false,1)],[],[]⟩
abbrev o_Z125:Ty:=(.cons (.ptr yR) .nil)
def sg_Z125:Sig:=⟨[(false,1)],[],o_Z125,[(false,1)],[.bx],[]⟩
abbrev o_Z174:Ty:=(.cons yK (.cons yI (.cons yL (.cons yN (.cons (.ptr yR) .nil)))))
def sg_Z174:Sig:=⟨[(false,1)],[.iob],o_Z174,[(true,4)],[.deep,.imm,.deep,.own],[(.ptr yR)]⟩
abbrev o_Z180:Ty:=(.cons .bool .nil)
def sg_Z180:Sig:=⟨[(false,1)],[],o_Z180,[(false,1)],[],[(.ptr yS)]⟩
abbrev o_Z184:Ty:=(.cons yI .nil)
def sg_Z184:Sig:=⟨[(false,1),(false,1),(false,1)],[],o_Z184,[(false,1)],[],[(.ptr yC)]⟩
abbrev o_Z136:Ty:=(.cons yI (.cons (.ptr yR) .nil))
def sg_Z136:Sig:=⟨[(false,1),(false,1)],[.iob,.imm],o_Z136,[(false,1)],[],[(.ptr yR)]⟩
abbrev o_Z142:Ty:=(.cons yL .nil)
def sg_Z142:Sig:=⟨[(false,1),(false,1)],[],o_Z142,[(false,1)],[.deep],[(.ptr yM)]⟩
abbrev o_Z23:Ty:=(.cons yL .nil)
def sg_Z23:Sig:=⟨[(true,4),(false,1)],[],o_Z23,[(false,1)],[.deep],[]⟩
abbrev o_Z30:Ty:=yM
def sg_Z30:Sig:=⟨[(true,4),(false,1)],[],o_Z30,[(true,4)],[.imm,.imm,.imm,.deep],[]⟩
abbrev o_Z21:Ty:=(.cons yL .nil)
def sg_Z21:Sig:=⟨[(false,1),(false,1),(false,1),(false,1)],[],o_Z21,[(false,1)],[.deep],[]⟩
abbrev o_Z78:Ty:=(.cons yI .nil)
def sg_Z78:Sig:=⟨[(false,1)],[],o_Z78,[(false,1)],[],[]⟩
abbrev o_Z14:Ty:=(.cons .bool .nil)
def sg_Z14:Sig:=⟨[(true,1)],[],o_Z14,[(false,1)],[],[]⟩
abbrev o_Z81:Ty:=(.cons yI .nil)
def sg_Z81:Sig:=⟨[(true,4),(false,1)],[],o_Z81,[(false,1)],[],[]⟩
abbrev o_Z64:Ty:=yC
def sg_Z64:Sig:=⟨[(true,4)],[],o_Z64,[(false,1)],[.deep],[]⟩
abbrev o_Z17:Ty:=(.cons .bool .nil)
def sg_Z17:Sig:=⟨[(false,1)],[],o_Z17,[(false,1)],[],[]⟩
abbrev o_Z87:Ty:=(.cons .bool .nil)
def sg_Z87:Sig:=⟨[(false,1),(false,1),(false,1)],[],o_Z87,[(false,1)],[],[]⟩
abbrev o_Z27:Ty:=(.cons .bool .nil)
def sg_Z27:Sig:=⟨[(true,1),(false,1)],[],o_Z27,[(false,1)],[],[]⟩
abbrev o_Z84:Ty:=yM
def sg_Z84:Sig:=⟨[(false,1),(false,1)],[],o_Z84,[(true,4)],[.imm,.imm,.imm,.deep],[]⟩
abbrev o_Z165:Ty:=(.cons .bool .nil)
def sg_Z165:Sig:=⟨[(false,1)],[],o_Z165,[(false,1)],[],[(.ptr yC)]⟩
abbrev o_Z123:Ty:=(.cons .bool .nil)
def sg_Z123:Sig:=⟨[(false,1)],[],o_Z123,[(false,1)],[],[]⟩
abbrev o_Z164:Ty:=(.cons yL .nil)
def sg_Z164:Sig:=⟨[(false,1),(false,1)],[],o_Z164,[(false,1)],[.deep],[(.ptr yC)]⟩
abbrev o_Z77:Ty:=(.cons yL .nil)
def sg_Z77:Sig:=⟨[(true,1),(false,1)],[],o_Z77,[(false,1)],[.deep],[]⟩
abbrev o_Z101:Ty:=(.cons .bool .nil)
def sg_Z101:Sig:=⟨[(false,1),(false,1)],[],o_Z101,[(false,1)],[],[]⟩
abbrev o_Z53:Ty:=(.cons yI .nil)
def sg_Z53:Sig:=⟨[(true,1),(false,1)],[],o_Z53,[(false,1)],[],[]⟩
abbrev o_Z118:Ty:=(.cons yI .nil)
def sg_Z118:Sig:=⟨[(false,1),(false,1)],[],o_Z118,[(false,1)],[],[]⟩
abbrev o_Z18:Ty:=(.cons .bool .nil)
def sg_Z18:Sig:=⟨[(true,4)],[],o_Z18,[(false,1)],[],[]⟩
abbrev o_Z88:Ty:=(.cons yI (.cons yI (.cons .bool .nil)))
def sg_Z88:Sig:=⟨[(true,4)],[],o_Z88,[(false,1),(false,1),(false,1)],[],[]⟩
abbrev o_Z89:Ty:=yM
def sg_Z89:Sig:=⟨[(false,1),(false,1),(false,1)],[],o_Z89,[(true,4)],[.imm,.imm,.imm,.deep],[]⟩
abbrev o_Z169:Ty:=(.cons yK (.cons yI (.cons yL (.cons yN (.cons (.ptr yR) .nil)))))
def sg_Z169:Sig:=⟨[(false,1)],[.iob],o_Z169,[(true,4)],[],[(.ptr yR)]⟩
abbrev o_Z191:Ty:=(.cons yL (.cons (.ptr yR) .nil))
def sg_Z191:Sig:=⟨[(false,1),(false,1)],[.iob,.imm],o_Z191,[(false,1)],[.deep],[(.ptr yR),(.ptr yS)]⟩
abbrev o_Z69:Ty:=(.cons yI .nil)
def sg_Z69:Sig:=⟨[(true,4),(false,1)],[],o_Z69,[(false,1)],[],[]⟩
abbrev o_Z68:Ty:=(.cons yL (.cons yI .nil))
def sg_Z68:Sig:=⟨[(true,4),(false,1)],[],o_Z68,[(false,1),(false,1)],[.deep,.imm],[]⟩
abbrev o_Z58:Ty:=(.cons .bool .nil)
def sg_Z58:Sig:=⟨[(false,1),(false,1)],[],o_Z58,[(false,1)],[],[]⟩
abbrev o_Z76:Ty:=yC
def sg_Z76:Sig:=⟨[(true,4)],[],o_Z76,[(false,1)],[.deep],[]⟩
abbrev o_Z74:Ty:=yM
def sg_Z74:Sig:=⟨[(true,4),(false,1),(false,1)],[],o_Z74,[(true,4)],[.imm,.imm,.imm,.deep],[]⟩
abbrev o_Z66:Ty:=yM
def sg_Z66:Sig:=⟨[(false,1),(false,1),(false,1)],[],o_Z66,[(true,4)],[.imm,.imm,.imm,.deep],[]⟩
abbrev o_Z177:Ty:=(.cons .bool .nil)
def sg_Z177:Sig:=⟨[(false,1)],[],o_Z177,[(false,1)],[],[(.ptr yS)]⟩
abbrev o_Z195:Ty:=yC
def sg_Z195:Sig:=⟨[(false,1),(false,1),(false,1)],[],o_Z195,[(false,1)],[.deep],[]⟩
abbrev o_Z187:Ty:=(.cons yI .nil)
def sg_Z187:Sig:=⟨[(false,1)],[],o_Z187,[(false,1)],[],[(.ptr yS)]⟩
abbrev o_Z189:Ty:=yC
def sg_Z189:Sig:=⟨[(false,1)],[],o_Z189,[(false,1)],[.deep],[(.ptr yS)]⟩
abbrev o_Z107:Ty:=(.cons .bool .nil)
def sg_Z107:Sig:=⟨[(false,1),(false,1)],[],o_Z107,[(false,1)],[],[]⟩
abbrev o_Z167:Ty:=(.cons .bool .nil)
def sg_Z167:Sig:=⟨[(false,1)],[],o_Z167,[(false,1)],[],[]⟩
abbrev o_Z163:Ty:=(.cons yI .nil)
def sg_Z163:Sig:=⟨[(false,1),(false,1)],[],o_Z163,[(false,1)],[],[(.ptr yC)]⟩
abbrev o_Z153:Ty:=yM
def sg_Z153:Sig:=⟨[(false,1),(false,1)],[],o_Z153,[(true,4)],[.imm,.imm,.imm,.deep],[(.ptr yM),(.ptr yM)]⟩
abbrev o_Z152:Ty:=(.cons .bool .nil)
def sg_Z152:Sig:=⟨[(false,1),(false,1)],[],o_Z152,[(false,1)],[],[(.ptr yM),(.ptr yM)]⟩
abbrev o_Z194:Ty:=(.cons .bool .nil)
def sg_Z194:Sig:=⟨[(false,1),(false,1)],[],o_Z194,[(false,1)],[],[(.ptr yS)]⟩
abbrev o_Z192:Ty:=(.cons yK (.cons yI (.cons yL (.cons yN (.cons yL (.cons (.ptr yR) .nil))))))
def sg_Z192:Sig:=⟨[(false,1)],[.iob],o_Z192,[(true,4),(false,1)],[.imm,.imm,.imm,.imm,.deep],[(.ptr yR)]⟩
abbrev o_Z65:Ty:=(.cons yI .nil)
def sg_Z65:Sig:=⟨[(true,4),(false,1),(false,1)],[],o_Z65,[(false,1)],[],[]⟩
abbrev o_Z34:Ty:=(.cons yI (.cons yI (.cons .bool .nil)))
def sg_Z34:Sig:=⟨[(true,4),(false,1),(false,1)],[],o_Z34,[(false,1),(false,1),(false,1)],[],[]⟩
abbrev o_Z190:Ty:=(.cons yK (.cons yI (.cons yL (.cons yN (.cons yL (.cons yL (.cons (.ptr yR) .nil)))))))
def sg_Z190:Sig:=⟨[(false,1)],[.iob],o_Z190,[(true,4),(false,1),(false,1)],[.imm,.imm,.imm,.imm,.deep,.deep],[(.ptr yR)]⟩
abbrev o_Z80:Ty:=(.cons yL (.cons .bool .nil))
def sg_Z80:Sig:=⟨[(true,4),(false,1)],[],o_Z80,[(false,1),(false,1)],[.deep,.imm],[]⟩
abbrev o_Z33:Ty:=yM
def sg_Z33:Sig:=⟨[(true,4),(false,1)],[],o_Z33,[(true,4)],[.imm,.imm,.imm,.deep],[]⟩
abbrev o_Z98:Ty:=(.cons yL .nil)
def sg_Z98:Sig:=⟨[(false,1)],[],o_Z98,[(false,1)],[.deep],[]⟩
abbrev o_Z197:Ty:=(.cons .bool .nil)
def sg_Z197:Sig:=⟨[(false,1),(false,1)],[],o_Z197,[(false,1)],[],[(.ptr yS)]⟩
abbrev o_Z188:Ty:=(.cons yL .nil)
def sg_Z188:Sig:=⟨[(false,1),(false,1),(false,1)],[],o_Z188,[(false,1)],[.deep],[(.ptr yS)]⟩
abbrev o_Z52:Ty:=(.cons yI .nil)
def sg_Z52:Sig:=⟨[(true,4),(false,1)],[],o_Z52,[(false,1)],[],[]⟩
abbrev o_Z133:Ty:=(.cons yI (.cons (.ptr yR) .nil))
def sg_Z133:Sig:=⟨[(false,1),(false,1)],[.iob,.imm],o_Z133,[(false,1)],[],[(.ptr yR)]⟩
abbrev o_Z56:Ty:=(.cons .bool .nil)
def sg_Z56:Sig:=⟨[(false,1)],[],o_Z56,[(false,1)],[],[]⟩
abbrev o_Z79:Ty:=(.cons yI .nil)
def sg_Z79:Sig:=⟨[(false,1)],[],o_Z79,[(false,1)],[],[]⟩
abbrev o_Z86:Ty:=(.cons yL .nil)
def sg_Z86:Sig:=⟨[(true,1)],[],o_Z86,[(false,1)],[.deep],[]⟩
abbrev o_Z48:Ty:=(.cons yL .nil)
def sg_Z48:Sig:=⟨[(false,1)],[],o_Z48,[(false,1)],[.deep],[]⟩
abbrev o_Z36:Ty:=(.cons .bool (.cons (.ptr (.cons yI (.cons .bool .nil))) .nil))
def sg_Z36:Sig:=⟨[(false,1)],[.iob],o_Z36,[(false,1)],[],[(.ptr (.cons yI (.cons .bool .nil)))]⟩
abbrev o_Z67:Ty:=(.cons yL (.cons .bool .nil))
def sg_Z67:Sig:=⟨[(false,1),(false,1)],[],o_Z67,[(false,1),(false,1)],[.deep,.imm],[]⟩
abbrev o_Z173:Ty:=(.cons yK (.cons (.ptr yR) .nil))
def sg_Z173:Sig:=⟨[(false,1)],[.iob],o_Z173,[(true,1)],[],[(.ptr yR)]⟩
abbrev o_Z171:Ty:=yS
def sg_Z171:Sig:=⟨[(false,1),(false,1),(false,1)],[],o_Z171,[(true,4)],[.deep,.imm,.deep,.deep],[(.ptr yC)]⟩
abbrev o_Z170:Ty:=(.cons yK (.cons yI (.cons yL (.cons yN (.cons (.ptr yR) .nil)))))
def sg_Z170:Sig:=⟨[(false,1),(false,1),(false,1),(false,1)],[.iob,.imm,.imm,.imm],o_Z170,[(true,4)],[.deep,.imm,.deep,.deep],[(.ptr yR),(.ptr yC)]⟩
abbrev o_Z179:Ty:=yS
def sg_Z179:Sig:=⟨[(false,1),(false,1),(false,1)],[],o_Z179,[(true,4)],[.deep,.imm,.deep,.deep],[(.ptr yC)]⟩
abbrev o_Z168:Ty:=yC
def sg_Z168:Sig:=⟨[(false,1),(false,1)],[],o_Z168,[(true,1)],[.deep],[(.ptr yC)]⟩
abbrev o_Z144:Ty:=(.cons yI (.cons yI (.cons yI (.cons yL (.cons (.ptr yR) .nil)))))
def sg_Z144:Sig:=⟨[(false,1),(false,1),(false,1),(false,1)],[.iob,.imm,.imm,.imm],o_Z144,[(true,4)],[.imm,.imm,.imm,.deep],[(.ptr yR)]⟩
abbrev o_Z183:Ty:=(.cons .bool .nil)
def sg_Z183:Sig:=⟨[(false,1),(false,1)],[],o_Z183,[(false,1)],[],[(.ptr yC)]⟩
abbrev o_Z172:Ty:=(.cons yI .nil)
def sg_Z172:Sig:=⟨[(false,1)],[],o_Z172,[(false,1)],[],[(.ptr yC)]⟩
abbrev o_Z178:Ty:=(.cons .bool .nil)
def sg_Z178:Sig:=⟨[(false,1),(false,1),(false,1),(false,1)],[],o_Z178,[(false,1)],[],[(.ptr yS),.nil,.nil,(.ptr yM)]⟩
abbrev o_Z181:Ty:=(.cons yI .nil)
def sg_Z181:Sig:=⟨[(false,1),(false,1),(false,1)],[],o_Z181,[(false,1)],[],[(.ptr yC)]⟩
abbrev o_Z127:Ty:=(.cons .bool .nil)
def sg_Z127:Sig:=⟨[(false,1),(false,1),(false,1)],[],o_Z127,[(false,1)],[],[]⟩
abbrev o_Z134:Ty:=(.cons yI (.cons (.ptr yR) .nil))
def sg_Z134:Sig:=⟨[(false,1)],[.iob],o_Z134,[(false,1)],[],[(.ptr yR)]⟩
abbrev o_Z62:Ty:=(.cons .bool .nil)
def sg_Z62:Sig:=⟨[(false,1),(false,1),(false,1)],[],o_Z62,[(false,1)],[],[]⟩
abbrev o_Z82:Ty:=yM
def sg_Z82:Sig:=⟨[(true,4)],[],o_Z82,[(true,4)],[.imm,.imm,.imm,.deep],[]⟩
abbrev o_Z31:Ty:=yC
def sg_Z31:Sig:=⟨[(true,4)],[],o_Z31,[(false,1)],[.deep],[]⟩
abbrev o_Z143:Ty:=(.cons .bool .nil)
def sg_Z143:Sig:=⟨[(false,1),(false,1),(false,1)],[],o_Z143,[(false,1)],[],[]⟩
abbrev o_Z155:Ty:=yM
def sg_Z155:Sig:=⟨[(false,1),(false,1),(false,1)],[],o_Z155,[(true,4)],[.imm,.imm,.imm,.deep],[]⟩
abbrev o_Z162:Ty:=(.cons yL .nil)
def sg_Z162:Sig:=⟨[(false,1),(false,1)],[],o_Z162,[(false,1)],[.deep],[(.ptr yC)]⟩
abbrev o_Z175:Ty:=(.cons (.ptr yM) .nil)
def sg_Z175:Sig:=⟨[(false,1),(false,1),(false,1)],[],o_Z175,[(false,1)],[],[(.ptr yS)]⟩
abbrev o_Z38:Ty:=(.cons yI .nil)
def sg_Z38:Sig:=⟨[(false,1),(false,1),(false,1)],[],o_Z38,[(false,1)],[],[]⟩
abbrev o_Z12:Ty:=(.cons yL .nil)
def sg_Z12:Sig:=⟨[(true,4),(false,1)],[],o_Z12,[(false,1)],[],[]⟩
abbrev o_Z41:Ty:=(.cons yL .nil)
def sg_Z41:Sig:=⟨[(true,1),(false,1)],[],o_Z41,[(false,1)],[.deep],[]⟩
abbrev o_Z37:Ty:=yM
def sg_Z37:Sig:=⟨[(true,4),(false,1),(false,1)],[],o_Z37,[(true,4)],[],[]⟩
abbrev o_Z49:Ty:=(.cons yI .nil)
def sg_Z49:Sig:=⟨[(true,4),(false,1)],[],o_Z49,[(false,1)],[],[]⟩
abbrev o_Z11:Ty:=(.cons yI .nil)
def sg_Z11:Sig:=⟨[(true,4),(false,1),(false,1)],[],o_Z11,[(false,1)],[],[]⟩
abbrev o_Z22:Ty:=(.cons yI .nil)
def sg_Z22:Sig:=⟨[(false,1),(false,1)],[],o_Z22,[(false,1)],[],[]⟩
abbrev o_Z135:Ty:=(.cons .bool (.cons (.ptr yR) .nil))
def sg_Z135:Sig:=⟨[(false,1),(false,1)],[.iob,.imm],o_Z135,[(false,1)],[],[(.ptr yR)]⟩
abbrev o_Z129:Ty:=(.cons yL .nil)
def sg_Z129:Sig:=⟨[(false,1)],[],o_Z129,[(false,1)],[.deep],[]⟩
abbrev o_Z147:Ty:=yC
def sg_Z147:Sig:=⟨[(false,1)],[],o_Z147,[(false,1)],[.deep],[(.ptr yM)]⟩
abbrev o_Z19:Ty:=(.cons .bool .nil)
def sg_Z19:Sig:=⟨[(false,1)],[],o_Z19,[(false,1)],[],[]⟩
abbrev o_Z32:Ty:=(.cons yI .nil)
def sg_Z32:Sig:=⟨[(false,1),(false,1)],[],o_Z32,[(false,1)],[],[]⟩
abbrev o_Z99:Ty:=(.cons .bool .nil)
def sg_Z99:Sig:=⟨[(false,1),(false,1)],[],o_Z99,[(false,1)],[],[]⟩
abbrev o_Z42:Ty:=yC
def sg_Z42:Sig:=⟨[(false,1)],[],o_Z42,[(false,1)],[.deep],[]⟩
abbrev o_Z15:Ty:=(.cons .bool .nil)
def sg_Z15:Sig:=⟨[(false,1),(false,1),(false,1)],[],o_Z15,[(false,1)],[],[.nil,(.ptr yC),(.ptr (.cons yI .nil))]⟩
abbrev o_Z39:Ty:=(.cons yL (.cons yI yC))
def sg_Z39:Sig:=⟨[(false,1),(false,1),(false,1)],[.io false,.imm,.imm],o_Z39,[(false,1),(false,1)],[.deep,.imm],[]⟩
abbrev o_Z106:Ty:=(.cons .bool .nil)
def sg_Z106:Sig:=⟨[(false,1),(false,1)],[],o_Z106,[(false,1)],[],[]⟩
abbrev o_Z73:Ty:=(.cons yI .nil)
def sg_Z73:Sig:=⟨[(false,1),(false,1)],[],o_Z73,[(false,1)],[],[]⟩
abbrev o_Z28:Ty:=(.cons .bool .nil)
def sg_Z28:Sig:=⟨[(false,1)],[],o_Z28,[(false,1)],[],[]⟩
abbrev o_Z96:Ty:=(.cons yL .nil)
def sg_Z96:Sig:=⟨[(false,1)],[],o_Z96,[(false,1)],[.deep],[]⟩
abbrev o_Z29:Ty:=(.cons (.sl (.st (.cons yI (.cons yI (.cons yI .nil))))) .nil)
def sg_Z29:Sig:=⟨[(true,1)],[],o_Z29,[(false,1)],[.deep],[]⟩
abbrev o_Z43:Ty:=yM
def sg_Z43:Sig:=⟨[(false,1),(false,1),(false,1),(false,1)],[],o_Z43,[(true,4)],[.imm,.imm,.imm,.deep],[]⟩
abbrev o_Z85:Ty:=(.cons yI .nil)
def sg_Z85:Sig:=⟨[(false,1),(false,1)],[],o_Z85,[(false,1)],[],[]⟩
abbrev o_Z158:Ty:=(.cons .bool .nil)
def sg_Z158:Sig:=⟨[(false,1),(false,1)],[],o_Z158,[(false,1)],[],[]⟩
abbrev o_Z161:Ty:=(.cons yL .nil)
def sg_Z161:Sig:=⟨[(false,1),(false,1)],[],o_Z161,[(false,1)],[.deep],[]⟩
abbrev o_Z141:Ty:=(.cons .bool .nil)
def sg_Z141:Sig:=⟨[(false,1)],[],o_Z141,[(false,1)],[],[]⟩
abbrev o_Z150:Ty:=(.cons yI .nil)
def sg_Z150:Sig:=⟨[(false,1)],[],o_Z150,[(false,1)],[],[(.ptr yM)]⟩
abbrev o_Z159:Ty:=yC
def sg_Z159:Sig:=⟨[(false,1)],[],o_Z159,[(true,1)],[],[]⟩
abbrev o_Z160:Ty:=(.cons yL (.cons (.ptr yR) .nil))
def sg_Z160:Sig:=⟨[(false,1),(false,1),(false,1)],[.iob,.imm,.imm],o_Z160,[(false,1)],[],[(.ptr yR)]⟩
abbrev o_Z112:Ty:=(.cons yI .nil)
def sg_Z112:Sig:=⟨[(false,1),(false,1)],[],o_Z112,[(false,1)],[],[]⟩
abbrev o_Z94:Ty:=(.cons yI (.cons .bool .nil))
def sg_Z94:Sig:=⟨[(false,1),(false,1),(false,1)],[],o_Z94,[(false,1),(false,1)],[],[]⟩
abbrev o_Z55:Ty:=(.cons .bool .nil)
def sg_Z55:Sig:=⟨[(true,4),(false,1),(false,1),(false,1)],[],o_Z55,[(false,1)],[],[]⟩
abbrev o_Z71:Ty:=yM
def sg_Z71:Sig:=⟨[(true,4),(true,4)],[],o_Z71,[(true,4)],[.imm,.imm,.imm,.deep],[]⟩
abbrev o_Z13:Ty:=(.cons .bool .nil)
def sg_Z13:Sig:=⟨[(true,4),(true,4)],[],o_Z13,[(false,1)],[],[]⟩
abbrev o_Z90:Ty:=(.cons yI .nil)
def sg_Z90:Sig:=⟨[(false,1),(false,1)],[],o_Z90,[(false,1)],[],[]⟩
abbrev o_Z26:Ty:=(.cons .bool .nil)
def sg_Z26:Sig:=⟨[(true,4),(false,1)],[],o_Z26,[(false,1)],[],[]⟩
abbrev o_Z59:Ty:=(.cons .bool .nil)
def sg_Z59:Sig:=⟨[(false,1),(false,1)],[],o_Z59,[(false,1)],[],[.nil,(.ptr (.cons yL .nil))]⟩
abbrev o_Z75:Ty:=(.cons .bool .nil)
def sg_Z75:Sig:=⟨[(false,1),(false,1)],[],o_Z75,[(false,1)],[],[.nil,(.ptr (.cons yL .nil))]⟩
abbrev o_Z196:Ty:=(.cons yI .nil)
def sg_Z196:Sig:=⟨[(false,1),(false,1)],[],o_Z196,[(false,1)],[],[(.ptr yS)]⟩
abbrev o_Z182:Ty:=yM
def sg_Z182:Sig:=⟨[(false,1),(false,1),(false,1)],[],o_Z182,[(true,4)],[.imm,.imm,.imm,.deep],[(.ptr yS)]⟩
abbrev o_Z132:Ty:=(.cons .bool .nil)
def sg_Z132:Sig:=⟨[(false,1),(false,1)],[],o_Z132,[(false,1)],[],[]⟩
abbrev o_Z186:Ty:=(.cons yI (.cons yI (.cons yI .nil)))
def sg_Z186:Sig:=⟨[(false,1)],[],o_Z186,[(false,1),(false,1),(false,1)],[],[(.ptr yS)]⟩
abbrev o_Z156:Ty:=yM
def sg_Z156:Sig:=⟨[(false,1),(false,1),(false,1)],[],o_Z156,[(true,4)],[.imm,.imm,.imm,.deep],[]⟩
abbrev o_Z198:Ty:=yC
def sg_Z198:Sig:=⟨[(false,1),(false,1),(false,1),(false,1)],[],o_Z198,[(false,1)],[.deep],[(.ptr yM)]⟩
abbrev o_Z199:Ty:=(.cons yI .nil)
def sg_Z199:Sig:=⟨[(false,1),(false,1)],[],o_Z199,[(false,1)],[],[(.ptr yS)]⟩
abbrev o_Z200:Ty:=yC
def sg_Z200:Sig:=⟨[(false,1),(false,1),(false,1)],[],o_Z200,[(false,1)],[.deep],[]⟩
abbrev o_Z131:Ty:=(.cons .bool .nil)
def sg_Z131:Sig:=⟨[(false,1),(false,1),(false,1)],[],o_Z131,[(false,1)],[],[]⟩
abbrev o_Z149:Ty:=(.cons .bool .nil)
def sg_Z149:Sig:=⟨[(false,1)],[],o_Z149,[(false,1)],[],[(.ptr yM)]⟩
abbrev o_Z157:Ty:=(.cons .bool .nil)
def sg_Z157:Sig:=⟨[(false,1),(false,1),(false,1)],[],o_Z157,[(false,1)],[],[]⟩
abbrev o_Z138:Ty:=(.cons yI .nil)
def sg_Z138:Sig:=⟨[(false,1),(false,1),(false,1)],[],o_Z138,[(false,1)],[],[]⟩
abbrev o_Z139:Ty:=(.cons yL (.cons (.ptr yR) .nil))
def sg_Z139:Sig:=⟨[(false,1),(false,1),(false,1)],[.iob,.imm,.imm],o_Z139,[(false,1)],[.deep],[(.ptr yR)]⟩
abbrev o_Z137:Ty:=(.cons yL .nil)
def sg_Z137:Sig:=⟨[(false,1),(false,1),(false,1),(false,1)],[],o_Z137,[(false,1)],[.deep],[]⟩
abbrev o_Z51:Ty:=(.cons yI .nil)
def sg_Z51:Sig:=⟨[(true,4),(false,1)],[],o_Z51,[(false,1)],[],[]⟩
abbrev o_Z35:Ty:=(.cons yL .nil)
def sg_Z35:Sig:=⟨[(false,1),(false,1),(false,1),(false,1),(false,1)],[],o_Z35,[(false,1)],[],[.nil,(.ptr (.cons yL .nil)),(.ptr (.cons yL .nil)),(.ptr yS),(.ptr (.cons yL .nil))]⟩
abbrev o_Z108:Ty:=(.cons yL .nil)
def sg_Z108:Sig:=⟨[(false,1),(false,1)],[.take true,.imm],o_Z108,[(false,1)],[.deep],[]⟩
abbrev o_Z193:Ty:=(.cons yI .nil)
def sg_Z193:Sig:=⟨[(false,1),(false,1)],[],o_Z193,[(false,1)],[],[(.ptr yS)]⟩
abbrev o_Z154:Ty:=yM
def sg_Z154:Sig:=⟨[(false,1),(false,1)],[],o_Z154,[(true,4)],[.imm,.imm,.imm,.deep],[]⟩
abbrev o_Z176:Ty:=(.cons yI (.cons yI (.cons yI (.cons yL (.cons (.ptr yR) .nil)))))
def sg_Z176:Sig:=⟨[(false,1),(false,1),(false,1)],[.iob,.imm,.imm],o_Z176,[(true,4)],[.imm,.imm,.imm,.deep],[(.ptr yR)]⟩
abbrev o_Z122:Ty:=(.cons yI (.cons yI (.cons yI (.cons yL (.cons yI .nil)))))
def sg_Z122:Sig:=⟨[(true,4)],[],o_Z122,[(true,4),(false,1)],[.imm,.imm,.imm,.deep,.imm],[]⟩
abbrev o_Z24:Ty:=(.cons .bool .nil)
def sg_Z24:Sig:=⟨[(false,1),(false,1)],[],o_Z24,[(false,1)],[],[]⟩
abbrev o_Z83:Ty:=(.cons yI .nil)
def sg_Z83:Sig:=⟨[(false,1),(false,1),(false,1)],[],o_Z83,[(false,1)],[],[.nil,.nil,(.ptr yM)]⟩
abbrev o_Z50:Ty:=(.cons yI .nil)
def sg_Z50:Sig:=⟨[(true,4),(false,1)],[],o_Z50,[(false,1)],[],[]⟩
abbrev o_Z151:Ty:=(.cons yI (.cons yI (.cons yI (.cons yL (.cons yL (.cons yI .nil))))))
def sg_Z151:Sig:=⟨[(false,1)],[],o_Z151,[(true,4),(false,1),(false,1)],[.imm,.imm,.imm,.deep,.deep,.imm],[(.ptr yM)]⟩
abbrev o_Z126:Ty:=(.cons .bool .nil)
def sg_Z126:Sig:=⟨[(false,1),(false,1)],[],o_Z126,[(false,1)],[],[]⟩
abbrev o_Z148:Ty:=(.cons yI .nil)
def sg_Z148:Sig:=⟨[(false,1),(false,1)],[],o_Z148,[(false,1)],[],[]⟩
abbrev o_Z60:Ty:=(.cons .bool .nil)
def sg_Z60:Sig:=⟨[(false,1)],[],o_Z60,[(false,1)],[],[]⟩
abbrev o_Z20:Ty:=(.cons .bool .nil)
def sg_Z20:Sig:=⟨[(false,1)],[],o_Z20,[(false,1)],[],[]⟩
abbrev o_Z63:Ty:=(.cons .bool .nil)
def sg_Z63:Sig:=⟨[(false,1)],[],o_Z63,[(false,1)],[],[]⟩
abbrev o_Z2:Ty:=(.cons yI .nil)
def sg_Z2:Sig:=⟨[(false,1)],[],o_Z2,[(false,1)],[],[]⟩
abbrev o_Z0:Ty:=(.cons yI .nil)
def sg_Z0:Sig:=⟨[(false,1),(false,1)],[],o_Z0,[(false,1)],[],[]⟩
abbrev o_Z97:Ty:=(.cons yI .nil)
def sg_Z97:Sig:=⟨[(false,1),(false,1)],[],o_Z97,[(false,1)],[],[]⟩
abbrev o_Z109:Ty:=(.cons yI .nil)
def sg_Z109:Sig:=⟨[(false,1),(false,1)],[],o_Z109,[(false,1)],[],[]⟩
abbrev o_Z40:Ty:=(.cons .bool .nil)
def sg_Z40:Sig:=⟨[(false,1),(false,1)],[],o_Z40,[(false,1)],[],[.nil,(.ptr (.cons yI .nil))]⟩
abbrev o_Z54:Ty:=(.cons yI .nil)
def sg_Z54:Sig:=⟨[(false,1),(false,1)],[],o_Z54,[(false,1)],[],[]⟩
abbrev o_Z166:Ty:=(.cons (.ptr yC) .nil)
def sg_Z166:Sig:=⟨[(false,1),(false,1)],[.iob,.imm],o_Z166,[],[],[(.ptr yC)]⟩
abbrev o_Z130:Ty:=(.cons yL .nil)
def sg_Z130:Sig:=⟨[(false,1),(false,1)],[],o_Z130,[(false,1)],[.deep],[]⟩
abbrev o_Z16:Ty:=(.cons .bool .nil)
def sg_Z16:Sig:=⟨[(true,4)],[],o_Z16,[(false,1)],[],[]⟩
abbrev o_Z72:Ty:=(.cons yI .nil)
def sg_Z72:Sig:=⟨[(false,1),(false,1),(false,1),(false,1)],[],o_Z72,[(false,1)],[],[.nil,.nil,(.ptr yM),(.ptr yC)]⟩
abbrev o_Z185:Ty:=yM
def sg_Z185:Sig:=⟨[(false,1),(false,1),(false,1),(false,1)],[],o_Z185,[(true,4)],[.imm,.imm,.imm,.deep],[(.ptr yS)]⟩
abbrev o_Z140:Ty:=(.cons .bool .nil)
def sg_Z140:Sig:=⟨[(false,1),(false,1)],[],o_Z140,[(false,1)],[],[]⟩
abbrev o_Z128:Ty:=(.cons yI .nil)
def sg_Z128:Sig:=⟨[(false,1),(false,1)],[],o_Z128,[(false,1)],[],[]⟩
abbrev o_Z146:Ty:=yM
def sg_Z146:Sig:=⟨[(false,1),(false,1)],[],o_Z146,[(true,4)],[.imm,.imm,.imm,.deep],[(.ptr yM),(.ptr yM)]⟩
abbrev o_Z25:Ty:=(.cons .bool .nil)
def sg_Z25:Sig:=⟨[(false,1),(false,1)],[],o_Z25,[(false,1)],[],[.nil,(.ptr (.cons yI .nil))]⟩
abbrev o_Z57:Ty:=(.cons .bool .nil)
def sg_Z57:Sig:=⟨[(false,1),(false,1)],[],o_Z57,[(false,1)],[],[]⟩
abbrev o_Z145:Ty:=(.cons yI .nil)
def sg_Z145:Sig:=⟨[(false,1),(false,1)],[],o_Z145,[(false,1)],[],[]⟩
abbrev o_Z3:Ty:=(.cons .bool .nil)
def sg_Z3:Sig:=⟨[(false,1)],[],o_Z3,[(false,1)],[],[]⟩
abbrev o_Z1:Ty:=(.cons yI .nil)
def sg_Z1:Sig:=⟨[(false,1),(false,1)],[],o_Z1,[(false,1)],[],[]⟩
abbrev o_Z70:Ty:=(.cons yI .nil)
def sg_Z70:Sig:=⟨[(false,1),(false,1),(false,1)],[],o_Z70,[(false,1)],[],[]⟩
abbrev o_Z61:Ty:=(.cons .bool .nil)
def sg_Z61:Sig:=⟨[(false,1)],[],o_Z61,[(false,1)],[],[]⟩
abbrev o_Z4:Ty:=(.cons .bool .nil)
def sg_Z4:Sig:=⟨[(false,1)],[],o_Z4,[(false,1)],[],[]⟩
def pol_Z91:Pol:=⟨206,[],[(25,⟨[21,23,27],[21],[],[],[],[],[]⟩),(29,⟨[21,23,27,28,29],[21,175],[],[],[],[],[]⟩)],[],[(17,⟨[1],[],[],[],[],[],[]⟩),(1000037,⟨[0,1,37],[],[],[],[],[],[]⟩),(1000070,⟨[1,5,6,7,8,9,12,70],[5],[],[],[],[],[]⟩),(1000098,⟨[1,5,6,98],[5],[],[],[],[],[]⟩),(1000140,⟨[1,140],[],[],[],[],[],[]⟩),(1000168,⟨[21,23,168],[21],[],[],[],[],[]⟩),(1000203,⟨[21,23,27,203],[21],[],[],[],[],[]⟩)],[]⟩
def pol_Z92:Pol:=⟨7,[],[],[],[],[]⟩
def pol_Z93:Pol:=⟨28,[],[(4,⟨[0,1,5],[],[],[],[],[],[]⟩)],[],[],[]⟩
def pol_Z10:Pol:=⟨21,[],[],[],[],[]⟩
def pol_Z121:Pol:=⟨16,[(10,[some 15])],[],[],[],[]⟩
def pol_Z9:Pol:=⟨31,[],[],[],[],[]⟩
def pol_Z119:Pol:=⟨17,[(7,[some 14]),(9,[none,none,none,none,some 15,some 16])],[],[],[],[]⟩
def pol_Z5:Pol:=⟨41,[(28,[some 40])],[],[],[],[]⟩
def pol_Z8:Pol:=⟨38,[],[],[],[],[]⟩
def pol_Z124:Pol:=⟨40,[],[(9,⟨[1,2,3,8,9],[3,18],[],[],[],[],[]⟩)],[],[],[]⟩
def pol_Z6:Pol:=⟨21,[],[],[],[],[]⟩
def pol_Z120:Pol:=⟨16,[(7,[some 15])],[],[],[],[]⟩
def pol_Z7:Pol:=⟨51,[(29,[some 50])],[(8,⟨[2,6,7,24,25],[2,6],[],[],[],[],[]⟩),(11,⟨[2,6,7,9,10,24,25],[2,6],[],[],[],[],[(1000009,0)]⟩)],[],[],[]⟩
def pol_Z125:Pol:=⟨7,[],[],[],[],[]⟩
def pol_Z174:Pol:=⟨113,[(24,[some 100,none,some 101,some 102]),(33,[some 103,none,some 104,some 105]),(54,[some 106,none,some 107,some 108]),(71,[some 111,none,some 112,some 109]),(96,[none,none,none,some 110])],[(17,⟨[0,2,3,4,7,8],[2,3,56,99],[],[],[],[],[]⟩),(22,⟨[0,2,4,9,10],[2,9,99,109,111,112],[],[],[],[109],[]⟩)],[],[(13,⟨[2,3,4,6],[2,3,39,99],[],[],[],[],[]⟩)],[]⟩
def pol_Z180:Pol:=⟨93,[],[(4,⟨[0,3],[],[],[],[],[],[]⟩),(7,⟨[0,3,4],[],[],[],[],[],[]⟩)],[],[(1000040,⟨[0,40],[],[],[],[],[],[]⟩),(1000073,⟨[0,3,4,73],[],[],[],[],[],[]⟩)],[]⟩
def pol_Z184:Pol:=⟨32,[],[(4,⟨[1,7,8,9],[],[],[],[],[],[]⟩)],[],[],[]⟩
def pol_Z136:Pol:=⟨22,[],[],[],[],[]⟩
def pol_Z142:Pol:=⟨59,[],[(3,⟨[0,1,5,6],[9],[],[],[],[],[]⟩),(7,⟨[0,1,5,6,7,8],[9],[],[],[],[],[]⟩)],[],[],[]⟩
def pol_Z23:Pol:=⟨29,[],[(3,⟨[1,2,5,8,9],[2,21],[(5,21,yI,true)],[],[],[],[]⟩)],[],[],[]⟩
def pol_Z30:Pol:=⟨103,[(24,[none,none,none,some 102])],[(3,⟨[1,2,4,5,29,30,31],[2,4,5,102],[],[],[],[],[]⟩),(7,⟨[1,2,4,5,7,29,30,31,40,41,42],[2,4,5,102],[],[],[],[],[]⟩),(12,⟨[1,2,4,5,7,8,10,11,12,29,30,31,40,41,42,58,59],[2,4,5,10,102],[],[],[],[],[]⟩),(15,⟨[1,2,4,5,7,8,10,11,12,13,29,30,31,40,41,42,58,59,63,64],[2,4,5,10,102],[],[],[],[],[]⟩)],[],[(2,⟨[1,2,4,5],[2,4,5,102],[],[],[],[],[]⟩),(22,⟨[4,5],[4,5,102],[],[],[],[],[]⟩)],[]⟩
def pol_Z21:Pol:=⟨38,[],[(3,⟨[0,1,2,3,9,12,13],[31],[(9,31,yI,true)],[],[],[],[]⟩)],[],[],[]⟩
def pol_Z78:Pol:=⟨6,[],[],[],[],[]⟩
def pol_Z14:Pol:=⟨41,[],[(2,⟨[1,6,7,8],[1],[],[],[1],[],[]⟩)],[],[(1000030,⟨[1,3,4,6,7,8,30],[1,3],[],[],[],[],[]⟩)],[]⟩
def pol_Z81:Pol:=⟨31,[],[(3,⟨[2,5,11,12,13],[2],[],[],[],[],[]⟩)],[],[],[]⟩
def pol_Z64:Pol:=⟨69,[(12,[some 68])],[(5,⟨[1,3,4,6,23,24],[1,61,68],[(6,61,yL,true)],[],[],[],[]⟩),(11,⟨[1,3,4,6,7,8,23,24,36,37,38],[1,32,61,68],[],[],[],[],[]⟩)],[],[],[]⟩
def pol_Z17:Pol:=⟨19,[],[(4,⟨[0,3],[],[],[],[],[],[]⟩)],[],[],[]⟩
def pol_Z87:Pol:=⟨18,[],[],[],[],[]⟩
def pol_Z27:Pol:=⟨28,[],[(4,⟨[1,2,16],[2],[],[],[],[],[]⟩)],[],[(1000015,⟨[1,2,15],[2],[],[],[],[],[]⟩)],[]⟩
def pol_Z84:Pol:=⟨12,[(8,[none,none,none,some 11])],[],[],[],[]⟩
def pol_Z165:Pol:=⟨66,[],[(4,⟨[0,3],[],[],[],[],[],[]⟩),(10,⟨[0,3,4,5],[],[],[],[],[],[]⟩)],[],[(1000047,⟨[0,3,4,47],[],[],[],[],[],[]⟩),(1000056,⟨[0,3,4,5,56],[],[],[],[],[],[]⟩)],[]⟩
def pol_Z123:Pol:=⟨6,[],[],[],[],[]⟩
def pol_Z164:Pol:=⟨35,[],[(3,⟨[0,1,5,6],[7],[],[],[],[],[]⟩)],[],[],[]⟩
def pol_Z77:Pol:=⟨29,[],[(3,⟨[1,5,9,10,11],[24],[(5,24,yI,true)],[],[],[],[]⟩)],[],[],[]⟩
def pol_Z101:Pol:=⟨11,[],[],[],[],[]⟩
def pol_Z53:Pol:=⟨19,[],[],[],[],[]⟩
def pol_Z118:Pol:=⟨21,[],[(2,⟨[0,1,7,8],[],[],[],[],[],[]⟩)],[],[],[]⟩
def pol_Z18:Pol:=⟨73,[],[(5,⟨[1,3,27,28,29],[1],[],[],[],[],[]⟩)],[],[(1000023,⟨[1,23],[1],[],[],[],[],[]⟩),(1000061,⟨[1,3,27,28,29,61],[1],[],[],[],[],[]⟩)],[]⟩
def pol_Z88:Pol:=⟨90,[],[(2,⟨[1,15,16,17],[1],[],[],[],[],[]⟩),(8,⟨[1,6,7,8,15,16,17,31,32],[1],[],[],[],[],[]⟩),(11,⟨[1,6,7,8,9,10,15,16,17,31,32],[1],[],[],[],[],[]⟩)],[],[(14,⟨[1,6,7,8,9,10,11,15,16,17,31,32],[1,11],[],[],[],[],[]⟩),(15,⟨[1,6,7,8,9,10,11,12,15,16,17,31,32],[1,11,12],[],[],[],[],[]⟩)],[]⟩
def pol_Z89:Pol:=⟨15,[(10,[none,none,none,some 14])],[],[],[],[]⟩
def pol_Z169:Pol:=⟨104,[(8,[some 100,none,some 101,some 102]),(75,[none,none,none,some 103])],[],[],[(25,⟨[2,3],[2,3,99],[],[],[],[],[(3,0),(3,2),(3,3)]⟩),(1000046,⟨[0,2,3,10,46],[2,3,99,100,101,102],[],[],[],[],[]⟩)],[]⟩
def pol_Z191:Pol:=⟨40,[],[(4,⟨[0,1,5,6,7],[8,38],[],[],[],[],[]⟩)],[],[],[]⟩
def pol_Z69:Pol:=⟨19,[],[],[],[],[]⟩
def pol_Z68:Pol:=⟨35,[],[(4,⟨[2,6,7,10,11,12],[2,19],[(6,19,yI,true)],[],[],[],[]⟩)],[],[],[]⟩
def pol_Z58:Pol:=⟨11,[],[],[],[],[]⟩
def pol_Z76:Pol:=⟨24,[(14,[some 23])],[(3,⟨[1,3,6,7],[1,16],[(3,16,yL,true)],[],[],[],[]⟩)],[],[],[]⟩
def pol_Z74:Pol:=⟨59,[(20,[none,none,none,some 57]),(50,[none,none,none,some 58])],[],[],[],[]⟩
def pol_Z66:Pol:=⟨18,[(12,[some 17])],[],[],[],[]⟩
def pol_Z177:Pol:=⟨18,[],[],[],[],[]⟩
def pol_Z195:Pol:=⟨17,[(12,[some 16])],[],[],[],[]⟩
def pol_Z187:Pol:=⟨12,[],[],[],[],[]⟩
def pol_Z189:Pol:=⟨74,[(69,[some 73])],[(5,⟨[0,3,4,5,6],[10],[],[],[],[],[]⟩)],[],[],[]⟩
def pol_Z107:Pol:=⟨28,[],[(4,⟨[0,1,12,13],[],[],[],[],[],[]⟩)],[],[],[]⟩
def pol_Z167:Pol:=⟨11,[],[],[],[],[]⟩
def pol_Z163:Pol:=⟨27,[],[(2,⟨[0,1,5],[],[],[],[],[],[]⟩)],[],[],[]⟩
def pol_Z153:Pol:=⟨99,[(22,[none,none,none,some 98])],[(3,⟨[0,1,4,5,6],[4,5,98],[],[],[],[],[]⟩),(6,⟨[0,1,4,5,6,7],[4,5,98],[],[],[],[],[]⟩),(10,⟨[0,1,4,5,6,7,8,9],[4,5,98],[],[],[],[],[]⟩)],[],[(2,⟨[0,1,4,5],[4,5,98],[],[],[],[],[]⟩)],[]⟩
def pol_Z152:Pol:=⟨76,[],[(4,⟨[0,1,5],[],[],[],[],[],[]⟩)],[],[(1000049,⟨[0,1,49],[],[],[],[],[],[]⟩)],[]⟩
def pol_Z194:Pol:=⟨37,[],[(5,⟨[0,1,5,6],[],[],[],[],[],[]⟩)],[],[],[]⟩
def pol_Z192:Pol:=⟨63,[(23,[some 62]),(48,[some 25])],[(10,⟨[0,2,4,6,7,8],[2,4,25,61],[],[],[],[],[]⟩)],[],[(15,⟨[2,4,6],[2,4,25,61],[],[],[],[],[]⟩)],[]⟩
def pol_Z65:Pol:=⟨34,[],[],[],[],[]⟩
def pol_Z34:Pol:=⟨79,[],[(4,⟨[3,4,11,23,24,25],[3,4],[],[],[],[],[]⟩),(7,⟨[3,4,11,12,13,23,24,25,30,31,32],[3,4],[],[],[],[],[]⟩)],[],[(1000055,⟨[3,4,11,12,13,14,15,23,24,25,30,31,32,55],[3,4],[],[],[],[],[]⟩)],[]⟩
def pol_Z190:Pol:=⟨75,[(17,[some 74]),(22,[some 27]),(38,[some 27])],[],[],[(8,⟨[0,2,5,7,8],[2,5,27,72,74],[],[],[],[],[]⟩),(11,⟨[0,2,5,7,8],[2,5,27,72,74],[],[],[],[],[]⟩),(13,⟨[2,5,7,8],[2,5,27,72,74],[],[],[],[],[]⟩),(1000032,⟨[0,2,5,7,8,32],[2,5,27,72,74],[],[],[],[],[]⟩),(1000045,⟨[0,2,5,7,8,45],[2,5,27,72,74],[],[],[],[],[]⟩)],[]⟩
def pol_Z80:Pol:=⟨78,[(14,[some 76]),(25,[some 77])],[(3,⟨[1,2,6,16,17],[2,76],[],[],[],[],[]⟩),(10,⟨[2,6,10,47,48,49],[2,46,76],[],[],[],[],[]⟩)],[],[],[]⟩
def pol_Z33:Pol:=⟨64,[(17,[some 62]),(56,[none,none,none,some 63])],[(4,⟨[2,4,5,6,18,19,20],[2,4,62],[],[],[],[],[]⟩),(8,⟨[2,4,5,6,9,18,19,20,31,32,33],[2,4,62],[],[],[],[],[]⟩)],[],[],[]⟩
def pol_Z98:Pol:=⟨38,[(24,[some 37])],[(3,⟨[0,3,9,10,11],[],[],[],[],[],[]⟩),(11,⟨[6,25,26,27],[37],[],[],[],[],[]⟩)],[],[],[]⟩
def pol_Z197:Pol:=⟨16,[],[],[],[],[]⟩
def pol_Z188:Pol:=⟨37,[(32,[some 36])],[],[],[],[]⟩
def pol_Z52:Pol:=⟨15,[],[],[],[],[]⟩
def pol_Z133:Pol:=⟨14,[],[],[],[],[]⟩
def pol_Z56:Pol:=⟨6,[],[],[],[],[]⟩
def pol_Z79:Pol:=⟨6,[],[],[],[],[]⟩
def pol_Z86:Pol:=⟨25,[],[(3,⟨[3,7,8,9],[21],[(3,21,yI,true)],[],[],[],[]⟩)],[],[],[]⟩
def pol_Z48:Pol:=⟨16,[],[(3,⟨[3,5,6],[12],[(3,12,yI,true)],[],[],[],[]⟩)],[],[],[]⟩
def pol_Z36:Pol:=⟨19,[],[],[],[],[]⟩
def pol_Z67:Pol:=⟨52,[(29,[some 51])],[(3,⟨[0,1,6,7],[],[],[],[],[],[]⟩),(8,⟨[0,6,7,8,9],[51],[],[],[],[],[]⟩)],[],[],[]⟩
def pol_Z173:Pol:=⟨52,[],[(12,⟨[0,2,3,4],[2,37,51],[],[],[],[37],[]⟩)],[],[],[]⟩
def pol_Z171:Pol:=⟨51,[(28,[some 49,none,some 50,some 47]),(41,[none,none,none,some 48])],[(3,⟨[0,1,2,6,7,8],[6,11],[],[],[],[],[]⟩),(8,⟨[1,2,6,9,10],[6,9,47,49,50],[],[],[],[],[]⟩)],[],[],[]⟩
def pol_Z170:Pol:=⟨88,[(20,[some 86,none,some 87,some 84]),(35,[none,none,none,some 83]),(76,[none,none,none,some 85])],[(4,⟨[0,1,2,3,8,9,10,11],[8,9,21,79,84,86,87],[],[],[],[],[]⟩),(8,⟨[1,8,9,10,12],[8,9,21,79,84,86,87],[],[],[],[21],[]⟩),(12,⟨[1,8,9,10,12,13,14],[8,9,21,79,84,86,87],[],[],[],[21],[]⟩)],[],[],[]⟩
def pol_Z179:Pol:=⟨61,[(12,[some 59]),(15,[some 60]),(50,[none,none,none,some 58])],[(3,⟨[0,1,2,6,7,8],[6,7,16,59,60],[],[],[],[],[]⟩),(7,⟨[0,1,2,6,7,8,9,10],[6,7,16,59,60],[],[],[],[],[]⟩)],[],[],[]⟩
def pol_Z168:Pol:=⟨46,[(38,[some 45])],[(3,⟨[0,1,4,5,6],[4,5,7],[],[],[],[],[]⟩)],[],[],[]⟩
def pol_Z144:Pol:=⟨67,[(15,[none,none,none,some 66])],[(3,⟨[0,1,2,3,8,9,10],[8,9,62,66],[],[],[],[],[]⟩),(9,⟨[1,2,3,8,9,11],[8,9,62,66],[],[],[],[],[]⟩)],[],[(12,⟨[8,9],[8,9,62,66],[],[],[],[],[]⟩),(1000038,⟨[1,2,3,8,9,38],[8,9,62,66],[],[],[],[],[]⟩)],[]⟩
def pol_Z183:Pol:=⟨25,[],[(4,⟨[0,1,5],[],[],[],[],[],[]⟩)],[],[],[]⟩
def pol_Z172:Pol:=⟨11,[],[],[],[],[]⟩
def pol_Z178:Pol:=⟨63,[],[],[],[],[]⟩
def pol_Z181:Pol:=⟨39,[],[(3,⟨[0,1,2,7,8],[],[],[],[],[],[]⟩)],[],[],[]⟩
def pol_Z127:Pol:=⟨18,[],[],[],[],[]⟩
def pol_Z134:Pol:=⟨63,[],[],[],[(4,⟨[0,3],[62],[],[],[],[],[]⟩)],[]⟩
def pol_Z62:Pol:=⟨19,[],[],[],[],[]⟩
def pol_Z82:Pol:=⟨16,[(10,[none,none,none,some 15])],[],[],[],[]⟩
def pol_Z31:Pol:=⟨11,[(5,[some 10])],[],[],[],[]⟩
def pol_Z143:Pol:=⟨29,[],[(2,⟨[0,1,2,7],[],[],[],[],[],[]⟩)],[],[],[]⟩
def pol_Z155:Pol:=⟨18,[],[],[],[],[]⟩
def pol_Z162:Pol:=⟨38,[],[(4,⟨[0,5,6,7],[15],[],[],[],[],[]⟩)],[],[(1000024,⟨[0,5,6,7,24],[15],[],[],[],[],[]⟩)],[]⟩
def pol_Z175:Pol:=⟨21,[],[],[],[],[]⟩
def pol_Z38:Pol:=⟨32,[],[(3,⟨[0,1,2,7,10,11],[],[],[],[],[],[]⟩)],[],[],[]⟩
def pol_Z12:Pol:=⟨22,[],[],[],[],[]⟩
def pol_Z41:Pol:=⟨29,[],[(3,⟨[2,5,13,14,15],[2,24],[(5,24,yI,true)],[],[],[],[]⟩)],[],[],[]⟩
def pol_Z37:Pol:=⟨22,[],[],[],[],[]⟩
def pol_Z49:Pol:=⟨41,[],[(3,⟨[1,2,5,18,19,20],[2],[],[],[],[],[]⟩)],[],[],[]⟩
def pol_Z11:Pol:=⟨23,[],[],[],[],[]⟩
def pol_Z22:Pol:=⟨12,[],[],[],[],[]⟩
def pol_Z135:Pol:=⟨11,[],[],[],[],[]⟩
def pol_Z129:Pol:=⟨7,[],[],[],[],[]⟩
def pol_Z147:Pol:=⟨72,[],[(4,⟨[0,3,4,6,7],[3,16],[],[],[],[],[]⟩),(10,⟨[0,3,4,6,7,8,9],[3,16,32],[],[],[],[],[]⟩)],[],[],[]⟩
def pol_Z19:Pol:=⟨21,[],[],[],[],[]⟩
def pol_Z32:Pol:=⟨17,[],[],[],[],[]⟩
def pol_Z99:Pol:=⟨11,[],[],[],[],[]⟩
def pol_Z42:Pol:=⟨29,[(22,[some 28])],[(3,⟨[0,3,6,7],[24],[(3,24,yL,true)],[],[],[],[]⟩)],[],[],[]⟩
def pol_Z15:Pol:=⟨16,[],[],[],[],[]⟩
def pol_Z39:Pol:=⟨125,[(77,[some 123]),(110,[some 124])],[(4,⟨[0,1,2,8,9,16,17],[116,120],[(8,116,yI,true)],[],[],[],[]⟩),(17,⟨[0,1,2,8,9,10,11,16,17,79,80,81],[10,116,120],[],[],[],[],[]⟩)],[],[(13,⟨[0,1,2,8,9,10,11,16,17],[10,116,120],[],[],[],[],[]⟩),(16,⟨[0,1,2,8,9,10,11,16,17],[10,116,120],[],[],[],[],[]⟩),(1000095,⟨[0,1,2,8,9,10,11,14,15,16,17,79,80,81,95],[10,116,120],[],[],[],[],[]⟩)],[]⟩
def pol_Z106:Pol:=⟨11,[],[],[],[],[]⟩
def pol_Z73:Pol:=⟨14,[],[],[],[],[]⟩
def pol_Z28:Pol:=⟨7,[],[],[],[],[]⟩
def pol_Z96:Pol:=⟨9,[],[],[],[(1000004,⟨[0,4],[],[],[],[],[],[]⟩)],[]⟩
def pol_Z29:Pol:=⟨33,[],[(3,⟨[1,3,9,10],[1,28],[(3,28,(.st (.cons yI (.cons yI (.cons yI .nil)))),true)],[],[],[],[]⟩),(6,⟨[1,3,4,9,10,15,16,17],[1,28],[(3,28,(.st (.cons yI (.cons yI (.cons yI .nil)))),true)],[],[],[],[]⟩)],[],[],[]⟩
def pol_Z43:Pol:=⟨40,[],[(3,⟨[2,3,8,9,16,17],[8,9,31],[],[(9,3,31,yI,true)],[],[],[]⟩),(6,⟨[2,3,8,9,10,16,17,20,21],[8,9,31],[],[(9,3,31,yI,true)],[],[],[]⟩)],[],[],[]⟩
def pol_Z85:Pol:=⟨10,[],[],[],[],[]⟩
def pol_Z158:Pol:=⟨42,[],[(4,⟨[0,1,5],[],[],[],[],[],[]⟩)],[],[],[]⟩
def pol_Z161:Pol:=⟨19,[(9,[some 18])],[],[],[],[]⟩
def pol_Z141:Pol:=⟨19,[],[(4,⟨[0,3],[],[],[],[],[],[]⟩)],[],[],[]⟩
def pol_Z150:Pol:=⟨15,[],[],[],[],[]⟩
def pol_Z159:Pol:=⟨20,[],[(3,⟨[0,2,3,4],[2,3],[],[],[],[],[(3,0)]⟩)],[],[],[]⟩
def pol_Z160:Pol:=⟨27,[],[(3,⟨[0,1,7,8],[24],[],[],[],[],[(1000007,0)]⟩)],[],[],[]⟩
def pol_Z112:Pol:=⟨21,[],[(2,⟨[0,1,7,8],[],[],[],[],[],[]⟩)],[],[],[]⟩
def pol_Z94:Pol:=⟨52,[],[(3,⟨[0,1,2,8,9,10],[],[],[],[],[],[]⟩)],[],[],[]⟩
def pol_Z55:Pol:=⟨36,[],[],[],[],[]⟩
def pol_Z71:Pol:=⟨25,[(15,[none,none,none,some 24])],[],[],[],[]⟩
def pol_Z13:Pol:=⟨39,[],[],[],[],[]⟩
def pol_Z90:Pol:=⟨7,[],[],[],[],[]⟩
def pol_Z26:Pol:=⟨20,[],[],[],[],[]⟩
def pol_Z59:Pol:=⟨10,[],[],[],[],[]⟩
def pol_Z75:Pol:=⟨10,[],[],[],[],[]⟩
def pol_Z196:Pol:=⟨28,[],[(3,⟨[0,1,5,6],[],[],[],[],[],[]⟩)],[],[],[]⟩
def pol_Z182:Pol:=⟨69,[(24,[none,none,none,some 67]),(63,[none,none,none,some 68])],[(5,⟨[0,1,2,6,7,8],[6],[],[],[],[],[]⟩)],[],[],[]⟩
def pol_Z132:Pol:=⟨28,[],[(4,⟨[0,1,5],[],[],[],[],[],[]⟩)],[],[],[]⟩
def pol_Z186:Pol:=⟨62,[],[(2,⟨[0,5],[],[],[],[],[],[]⟩),(6,⟨[0,5,6,7],[],[],[],[],[],[]⟩),(9,⟨[0,5,6,7,8],[],[],[],[],[],[]⟩)],[],[(1000036,⟨[0,5,6,7,36],[],[],[],[],[],[]⟩)],[]⟩
def pol_Z156:Pol:=⟨33,[],[(3,⟨[2,6,7,8],[6,7,13],[],[],[],[],[]⟩)],[],[],[]⟩
def pol_Z198:Pol:=⟨67,[],[(3,⟨[0,1,2,3,9,10],[13],[],[],[],[],[]⟩),(7,⟨[0,1,2,3,9,10,11,12],[13,23],[],[],[],[],[]⟩)],[],[],[]⟩
def pol_Z199:Pol:=⟨24,[],[(3,⟨[0,1,5,6],[],[],[],[],[],[]⟩)],[],[],[]⟩
def pol_Z200:Pol:=⟨34,[(26,[some 33])],[(3,⟨[0,1,2,7,8],[9],[],[],[],[],[]⟩)],[],[],[]⟩
def pol_Z131:Pol:=⟨41,[],[(2,⟨[0,1,2,7],[],[],[],[],[],[]⟩)],[],[(1000037,⟨[0,1,2,7,37],[],[],[],[],[],[]⟩)],[]⟩
def pol_Z149:Pol:=⟨43,[],[],[],[],[]⟩
def pol_Z157:Pol:=⟨19,[],[],[],[],[]⟩
def pol_Z138:Pol:=⟨32,[],[(3,⟨[0,1,2,7,8],[],[],[],[],[],[]⟩)],[],[],[]⟩
def pol_Z139:Pol:=⟨26,[],[(3,⟨[0,1,2,7,8],[9,23],[],[],[],[],[]⟩)],[],[],[]⟩
def pol_Z137:Pol:=⟨39,[],[(3,⟨[0,1,2,3,9,10],[11],[],[],[],[],[]⟩)],[],[],[]⟩
def pol_Z51:Pol:=⟨20,[],[],[],[],[]⟩
def pol_Z35:Pol:=⟨31,[],[],[],[],[]⟩
def pol_Z193:Pol:=⟨20,[],[],[],[],[]⟩
def pol_Z154:Pol:=⟨28,[(10,[none,none,none,some 27])],[(3,⟨[1,4,5,6],[4,5,27],[],[],[],[],[]⟩)],[],[],[]⟩
def pol_Z176:Pol:=⟨65,[(15,[none,none,none,some 63]),(22,[none,none,none,some 64])],[(6,⟨[0,1,2,6,8,9],[6,8,60,64],[],[],[],[],[]⟩),(10,⟨[0,1,2,6,8,9,10],[6,8,60,64],[],[],[],[],[]⟩)],[],[],[]⟩
def pol_Z122:Pol:=⟨84,[(43,[none,none,none,some 83])],[(12,⟨[1,2,5,6,9,10],[1,2,5,6,9,83],[],[],[],[],[]⟩),(15,⟨[1,2,5,6,9,10,11],[1,2,5,6,9,83],[],[],[],[],[]⟩)],[],[],[]⟩
def pol_Z24:Pol:=⟨11,[],[],[],[],[]⟩
def pol_Z83:Pol:=⟨13,[],[],[],[],[]⟩
def pol_Z50:Pol:=⟨32,[],[(3,⟨[5,12,13,14],[],[],[],[],[],[]⟩)],[],[],[]⟩
def pol_Z151:Pol:=⟨248,[(37,[some 247])],[(8,⟨[0,2,5,6,7,8,9,10,11],[2,5,47,247],[],[],[],[],[]⟩),(11,⟨[0,2,5,6,7,8,9,10,11,12],[2,5,47,247],[],[],[],[],[]⟩),(17,⟨[0,2,5,6,7,8,9,10,11,12,13],[2,5,47,247],[],[],[],[],[]⟩),(26,⟨[0,2,5,6,7,8,9,10,11,16,17],[2,5,47,247],[],[],[],[],[]⟩),(30,⟨[0,2,5,6,7,8,9,10,11,18],[2,5,47,247],[],[],[],[],[]⟩),(35,⟨[0,2,5,6,7,8,9,10,11,18,19,20],[2,5,47,247],[],[],[],[],[]⟩)],[],[(2,⟨[0,2,5],[2,5,247],[],[],[],[],[]⟩),(22,⟨[0,2,5,6,7,8,9,10,11],[2,5,47,247],[],[],[],[],[]⟩),(1000058,⟨[0,2,5,6,7,8,9,10,11,58],[2,5,47,247],[],[],[],[],[]⟩),(1000079,⟨[0,2,5,6,7,8,9,10,11,12,79],[2,5,47,247],[],[],[],[],[]⟩),(1000200,⟨[0,2,5,6,7,8,9,10,11,18,19,200],[2,5,47,247],[],[],[],[],[]⟩)],[]⟩
def pol_Z126:Pol:=⟨20,[],[(2,⟨[0,1,5],[],[],[],[],[],[]⟩)],[],[],[]⟩
def pol_Z148:Pol:=⟨14,[],[],[],[],[]⟩
def pol_Z60:Pol:=⟨21,[],[(2,⟨[0,3],[],[],[],[],[],[]⟩)],[],[],[]⟩
def pol_Z20:Pol:=⟨7,[],[],[],[],[]⟩
def pol_Z63:Pol:=⟨6,[],[],[],[],[]⟩
def pol_Z2:Pol:=⟨19,[],[(3,⟨[3,6,7,8],[],[],[],[],[],[]⟩)],[],[],[]⟩
def pol_Z0:Pol:=⟨22,[],[],[],[],[]⟩
def pol_Z97:Pol:=⟨38,[],[(2,⟨[0,1,9,10,11],[],[],[],[],[],[]⟩)],[],[],[]⟩
def pol_Z109:Pol:=⟨21,[],[(2,⟨[0,1,7,8],[],[],[],[],[],[]⟩)],[],[],[]⟩
def pol_Z40:Pol:=⟨11,[],[],[],[],[]⟩
def pol_Z54:Pol:=⟨12,[],[],[],[],[]⟩
def pol_Z166:Pol:=⟨74,[(57,[some 73])],[(2,⟨[0,1,4],[71],[],[],[],[],[]⟩),(6,⟨[0,1,5],[71],[],[],[],[],[]⟩)],[],[(1000019,⟨[0,1,4,19],[71],[],[],[],[],[]⟩),(1000044,⟨[0,1,5,44],[71],[],[],[],[],[]⟩)],[]⟩
def pol_Z130:Pol:=⟨51,[],[(4,⟨[0,1,5,6,7],[8],[],[],[],[],[]⟩)],[],[(10,⟨[0,1,5,6,7],[8],[],[],[],[],[]⟩),(1000024,⟨[0,1,5,6,7,24],[8],[],[],[],[],[]⟩)],[]⟩
def pol_Z16:Pol:=⟨38,[],[],[],[],[]⟩
def pol_Z72:Pol:=⟨21,[],[],[],[],[]⟩
def pol_Z185:Pol:=⟨37,[(31,[none,none,none,some 36])],[],[],[(4,⟨[0,1,2,3,8,9],[8],[],[],[],[],[]⟩)],[]⟩
def pol_Z140:Pol:=⟨25,[],[(2,⟨[0,1,5],[],[],[],[],[],[]⟩)],[],[],[]⟩
def pol_Z128:Pol:=⟨12,[],[],[],[],[]⟩
def pol_Z146:Pol:=⟨81,[],[(3,⟨[0,1,4,5,6],[4,5,24],[],[],[],[],[]⟩)],[],[(2,⟨[0,1,4,5],[4,5,24],[],[],[],[],[]⟩)],[]⟩
def pol_Z25:Pol:=⟨10,[],[],[],[],[]⟩
def pol_Z57:Pol:=⟨11,[],[],[],[],[]⟩
def pol_Z145:Pol:=⟨21,[],[(3,⟨[0,1,5,6],[],[],[],[],[],[]⟩)],[],[],[]⟩
def pol_Z3:Pol:=⟨7,[],[],[],[],[]⟩
def pol_Z1:Pol:=⟨22,[],[],[],[],[]⟩
def pol_Z70:Pol:=⟨29,[],[(2,⟨[0,1,2,7],[],[],[],[],[],[]⟩)],[],[],[]⟩
def pol_Z61:Pol:=⟨6,[],[],[],[],[]⟩
def pol_Z4:Pol:=⟨7,[],[],[],[],[]⟩
def sigL:List (Option Sig):=[none,none,none,none,none,none,none,none,none,none,some sg_Z91,none,none,none,none,none,none,none,none,none,none,none,none,none,some sg_Z92,none,none,none,none,some sg_Z93,none,none,none,none,none,none,none,none,none,none,none,some sg_Z10,none,none,none,none,none,some sg_Z121,none,none,none,none,none,none,none,none,none,none,none,none,none,none,none,none,none,none,none,some sg_Z9,none,none,none,some sg_Z119,some sg_Z5,some sg_Z8,some sg_Z124,some sg_Z6,some sg_Z120,some sg_Z7,some sg_Z125,some sg_Z174,none,none,some sg_Z180,none,some sg_Z184,some sg_Z136,none,none,none,none,none,none,some sg_Z142,none,some sg_Z23,some sg_Z30,some sg_Z21,none,none,none,none,none,none,some sg_Z78,none,none,none,none,some sg_Z14,none,none,some sg_Z81,some sg_Z64,some sg_Z17,some sg_Z87,some sg_Z27,none,none,none,some sg_Z84,some sg_Z165,some sg_Z123,none,none,none,some sg_Z164,none,none,some sg_Z77,some sg_Z101,none,none,some sg_Z53,some sg_Z118,some sg_Z18,some sg_Z88,none,some sg_Z89,some sg_Z169,some sg_Z191,some sg_Z69,some sg_Z68,some sg_Z58,some sg_Z76,some sg_Z74,some sg_Z66,none,none,some sg_Z177,some sg_Z195,some sg_Z187,some sg_Z189,none,none,none,some sg_Z107,some sg_Z167,some sg_Z163,none,none,some sg_Z153,some sg_Z152,none,some sg_Z194,none,some sg_Z192,none,none,none,none,some sg_Z65,some sg_Z34,some sg_Z190,some sg_Z80,some sg_Z33,some sg_Z98,some sg_Z197,some sg_Z188,some sg_Z52,some sg_Z133,some sg_Z56,some sg_Z79,some sg_Z86,some sg_Z48,some sg_Z36,some sg_Z67,some sg_Z173,some sg_Z171,some sg_Z170,some sg_Z179,some sg_Z168,some sg_Z144,none,some sg_Z183,some sg_Z172,some sg_Z178,some sg_Z181,some sg_Z127,some sg_Z134,some sg_Z62,none,some sg_Z82,none,some sg_Z31,none,some sg_Z143,some sg_Z155,some sg_Z162,none,some sg_Z175,none,some sg_Z38,some sg_Z12,some sg_Z41,some sg_Z37,some sg_Z49,some sg_Z11,some sg_Z22,some sg_Z135,none,none,none,some sg_Z129,none,none,none,none,none,some sg_Z147,some sg_Z19,some sg_Z32,some sg_Z99,some sg_Z42,some sg_Z15,none,none,none,some sg_Z39,some sg_Z106,some sg_Z73,some sg_Z28,some sg_Z96,some sg_Z29,none,some sg_Z43,some sg_Z85,some sg_Z158,some sg_Z161,some sg_Z141,some sg_Z150,some sg_Z159,some sg_Z160,none,some sg_Z112,some sg_Z94,some sg_Z55,some sg_Z71,some sg_Z13,some sg_Z90,some sg_Z26,some sg_Z59,some sg_Z75,none,none,some sg_Z196,some sg_Z182,some sg_Z132,some sg_Z186,some sg_Z156,some sg_Z198,some sg_Z199,some sg_Z200,none,none,some sg_Z131,some sg_Z149,some sg_Z157,some sg_Z138,none,some sg_Z139,some sg_Z137,none,some sg_Z51,none,some sg_Z35,some sg_Z108,some sg_Z193,some sg_Z154,some sg_Z176,some sg_Z122,some sg_Z24,none,some sg_Z83,some sg_Z50,none,none,none,none,some sg_Z151,some sg_Z126,some sg_Z148,some sg_Z60,some sg_Z20,some sg_Z63,some sg_Z2,some sg_Z0,some sg_Z97,some sg_Z109,none,none,some sg_Z40,some sg_Z54,some sg_Z166,some sg_Z130,some sg_Z16,some sg_Z72,some sg_Z185,none,some sg_Z140,some sg_Z128,some sg_Z146,some sg_Z25,some sg_Z57,none,none,none,some sg_Z145,some sg_Z3,some sg_Z1,none,none,none,none,none,none,none,none,none,none,none,some sg_Z70,some sg_Z61,none,none,none,none,none,none,none,none,none,some sg_Z4,none,none,none,none,none,none,none,none,none,none,none,none,none,none,none,none,none,none,none,none,none,none,none,none,none,none]
def fnL:List (Option (Func×Pol)):=[none,none,none,none,none,none,none,none,none,none,some (F_Z91,pol_Z91),none,none,none,none,none,none,none,none,none,none,none,none,none,some (F_Z92,pol_Z92),none,none,none,none,some (F_Z93,pol_Z93),none,none,none,none,none,none,none,none,none,none,none,some (F_Z10,pol_Z10),none,none,none,none,none,some (F_Z121,pol_Z121),none,none,none,none,none,none,none,none,none,none,none,none,none,none,none,none,none,none,none,some (F_Z9,pol_Z9),none,none,none,some (F_Z119,pol_Z119),some (F_Z5,pol_Z5),some (F_Z8,pol_Z8),some (F_Z124,pol_Z124),some (F_Z6,pol_Z6),some (F_Z120,pol_Z120),some (F_Z7,pol_Z7),some (F_Z125,pol_Z125),some (F_Z174,pol_Z174),none,none,some (F_Z180,pol_Z180),none,some (F_Z184,pol_Z184),some (F_Z136,pol_Z136),none,none,none,none,none,none,some (F_Z142,pol_Z142),none,some (F_Z23,pol_Z23),some (F_Z30,pol_Z30),some (F_Z21,pol_Z21),none,none,none,none,none,none,some (F_Z78,pol_Z78),none,none,none,none,some (F_Z14,pol_Z14),none,none,some (F_Z81,pol_Z81),some (F_Z64,pol_Z64),some (F_Z17,pol_Z17),some (F_Z87,pol_Z87),some (F_Z27,pol_Z27),none,none,none,some (F_Z84,pol_Z84),some (F_Z165,pol_Z165),some (F_Z123,pol_Z123),none,none,none,some (F_Z164,pol_Z164),none,none,some (F_Z77,pol_Z77),some (F_Z101,pol_Z101),none,none,some (F_Z53,pol_Z53),some (F_Z118,pol_Z118),some (F_Z18,pol_Z18),some (F_Z88,pol_Z88),none,some (F_Z89,pol_Z89),some (F_Z169,pol_Z169),some (F_Z191,pol_Z191),some (F_Z69,pol_Z69),some (F_Z68,pol_Z68),some (F_Z58,pol_Z58),some (F_Z76,pol_Z76),some (F_Z74,pol_Z74),some (F_Z66,pol_Z66),none,none,some (F_Z177,pol_Z177),some (F_Z195,pol_Z195),some (F_Z187,pol_Z187),some (F_Z189,pol_Z189),none,none,none,some (F_Z107,pol_Z107),some (F_Z167,pol_Z167),some (F_Z163,pol_Z163),none,none,some (F_Z153,pol_Z153),some (F_Z152,pol_Z152),none,some (F_Z194,pol_Z194),none,some (F_Z192,pol_Z192),none,none,none,none,some (F_Z65,pol_Z65),some (F_Z34,pol_Z34),some (F_Z190,pol_Z190),some (F_Z80,pol_Z80),some (F_Z33,pol_Z33),some (F_Z98,pol_Z98),some (F_Z197,pol_Z197),some (F_Z188,pol_Z188),some (F_Z52,pol_Z52),some (F_Z133,pol_Z133),some (F_Z56,pol_Z56),some (F_Z79,pol_Z79),some (F_Z86,pol_Z86),some (F_Z48,pol_Z48),some (F_Z36,pol_Z36),some (F_Z67,pol_Z67),some (F_Z173,pol_Z173),some (F_Z171,pol_Z171),some (F_Z170,pol_Z170),some (F_Z179,pol_Z179),some (F_Z168,pol_Z168),some (F_Z144,pol_Z144),none,some (F_Z183,pol_Z183),some (F_Z172,pol_Z172),some (F_Z178,pol_Z178),some (F_Z181,pol_Z181),some (F_Z127,pol_Z127),some (F_Z134,pol_Z134),some (F_Z62,pol_Z62),none,some (F_Z82,pol_Z82),none,some (F_Z31,pol_Z31),none,some (F_Z143,pol_Z143),some (F_Z155,pol_Z155),some (F_Z162,pol_Z162),none,some (F_Z175,pol_Z175),none,some (F_Z38,pol_Z38),some (F_Z12,pol_Z12),some (F_Z41,pol_Z41),some (F_Z37,pol_Z37),some (F_Z49,pol_Z49),some (F_Z11,pol_Z11),some (F_Z22,pol_Z22),some (F_Z135,pol_Z135),none,none,none,some (F_Z129,pol_Z129),none,none,none,none,none,some (F_Z147,pol_Z147),some (F_Z19,pol_Z19),some (F_Z32,pol_Z32),some (F_Z99,pol_Z99),some (F_Z42,pol_Z42),some (F_Z15,pol_Z15),none,none,none,some (F_Z39,pol_Z39),some (F_Z106,pol_Z106),some (F_Z73,pol_Z73),some (F_Z28,pol_Z28),some (F_Z96,pol_Z96),some (F_Z29,pol_Z29),none,some (F_Z43,pol_Z43),some (F_Z85,pol_Z85),some (F_Z158,pol_Z158),some (F_Z161,pol_Z161),some (F_Z141,pol_Z141),some (F_Z150,pol_Z150),some (F_Z159,pol_Z159),some (F_Z160,pol_Z160),none,some (F_Z112,pol_Z112),some (F_Z94,pol_Z94),some (F_Z55,pol_Z55),some (F_Z71,pol_Z71),some (F_Z13,pol_Z13),some (F_Z90,pol_Z90),some (F_Z26,pol_Z26),some (F_Z59,pol_Z59),some (F_Z75,pol_Z75),none,none,some (F_Z196,pol_Z196),some (F_Z182,pol_Z182),some (F_Z132,pol_Z132),some (F_Z186,pol_Z186),some (F_Z156,pol_Z156),some (F_Z198,pol_Z198),some (F_Z199,pol_Z199),some (F_Z200,pol_Z200),none,none,some (F_Z131,pol_Z131),some (F_Z149,pol_Z149),some (F_Z157,pol_Z157),some (F_Z138,pol_Z138),none,some (F_Z139,pol_Z139),some (F_Z137,pol_Z137),none,some (F_Z51,pol_Z51),none,some (F_Z35,pol_Z35),none,some (F_Z193,pol_Z193),some (F_Z154,pol_Z154),some (F_Z176,pol_Z176),some (F_Z122,pol_Z122),some (F_Z24,pol_Z24),none,some (F_Z83,pol_Z83),some (F_Z50,pol_Z50),none,none,none,none,some (F_Z151,pol_Z151),some (F_Z126,pol_Z126),some (F_Z148,pol_Z148),some (F_Z60,pol_Z60),some (F_Z20,pol_Z20),some (F_Z63,pol_Z63),some (F_Z2,pol_Z2),some (F_Z0,pol_Z0),some (F_Z97,pol_Z97),some (F_Z109,pol_Z109),none,none,some (F_Z40,pol_Z40),some (F_Z54,pol_Z54),some (F_Z166,pol_Z166),some (F_Z130,pol_Z130),some (F_Z16,pol_Z16),some (F_Z72,pol_Z72),some (F_Z185,pol_Z185),none,some (F_Z140,pol_Z140),some (F_Z128,pol_Z128),some (F_Z146,pol_Z146),some (F_Z25,pol_Z25),some (F_Z57,pol_Z57),none,none,none,some (F_Z145,pol_Z145),some (F_Z3,pol_Z3),some (F_Z1,pol_Z1),none,none,none,none,none,none,none,none,none,none,none,some (F_Z70,pol_Z70),some (F_Z61,pol_Z61),none,none,none,none,none,none,none,none,none,some (F_Z4,pol_Z4),none,none,none,none,none,none,none,none,none,none,none,none,none,none,none,none,none,none,none,none,none,none,none,none,none,none]
def primL:List (Option (Run→List Dv→Option Dv)):=[none,none,none,none,none,none,none,none,none,none,none,none,none,none,none,none,none,none,none,none,none,none,none,none,none,none,none,none,none,none,none,none,none,none,none,none,none,none,none,none,none,none,none,none,none,none,none,none,none,none,none,none,none,none,none,none,none,none,none,none,none,none,none,none,none,none,none,none,none,none,none,none,none,none,none,none,none,none,none,none,none,none,none,none,none,none,none,none,none,none,none,none,none,none,none,none,none,none,none,none,none,none,none,none,none,none,none,none,none,none,none,none,none,none,none,none,none,none,none,none,none,none,none,none,none,none,none,none,none,none,none,none,none,none,none,none,none,none,none,none,none,none,none,none,none,none,none,none,none,none,none,none,none,none,none,none,none,none,none,none,none,none,none,none,none,none,none,none,none,none,none,none,none,none,none,none,none,none,none,none,none,none,none,none,none,none,none,none,none,none,none,none,none,none,none,none,none,none,none,none,none,none,none,none,none,none,none,none,none,none,none,none,none,none,none,none,none,none,none,none,none,none,none,none,none,none,none,none,none,none,none,none,none,none,none,none,none,none,none,none,none,none,none,none,none,none,none,none,none,none,none,none,none,none,none,none,none,none,none,none,none,none,none,none,none,none,none,none,none,none,none,none,none,none,none,none,none,none,none,none,none,none,none,none,none,some (qn0 yI),none,none,none,none,none,none,none,none,none,none,none,none,none,none,none,none,none,none,none,none,none,none,none,none,none,none,none,none,none,none,none,none,none,none,none,none,none,none,none,none,none,none,none,none,none,none,none,none,none,none,none,none,none,none,none,none,none,none,none,none,none,none,none,none,none,none,none,none,none,none,none,none,none,none,none,none,none,none,none,none,none,none,none,none,none,none,none,none,none,none,none,none]
def E:Env:={ P:=Tryz.prog,fn:=fun f=>fnL.getD f none,prim:=fun f=>primL.getD f none,sig:=fun f=>sigL.getD f none }
theorem sig_laws_FnExtensions_eq:E.sig n_Z91=some sg_Z91:=rfl
abbrev RT(f:Nat)(s:Sig)(q:Pol)(F:Func):Prop:=∀ n args,run E (n+1) f args=qsB E (mkR (run E n)) s q F n args
theorem run_Z91:RT n_Z91 sg_Z91 pol_Z91 F_Z91:=fun _ _=>rfl
theorem run_Z92:RT n_Z92 sg_Z92 pol_Z92 F_Z92:=fun _ _=>rfl
theorem run_Z93:RT n_Z93 sg_Z93 pol_Z93 F_Z93:=fun _ _=>rfl
theorem run_Z10:RT n_Z10 sg_Z10 pol_Z10 F_Z10:=fun _ _=>rfl
theorem run_Z121:RT n_Z121 sg_Z121 pol_Z121 F_Z121:=fun _ _=>rfl
theorem run_Z9:RT n_Z9 sg_Z9 pol_Z9 F_Z9:=fun _ _=>rfl
theorem run_Z119:RT n_Z119 sg_Z119 pol_Z119 F_Z119:=fun _ _=>rfl
theorem run_Z5:RT n_Z5 sg_Z5 pol_Z5 F_Z5:=fun _ _=>rfl
theorem run_Z8:RT n_Z8 sg_Z8 pol_Z8 F_Z8:=fun _ _=>rfl
theorem run_Z124:RT n_Z124 sg_Z124 pol_Z124 F_Z124:=fun _ _=>rfl
theorem run_Z6:RT n_Z6 sg_Z6 pol_Z6 F_Z6:=fun _ _=>rfl
theorem run_Z120:RT n_Z120 sg_Z120 pol_Z120 F_Z120:=fun _ _=>rfl
theorem run_Z7:RT n_Z7 sg_Z7 pol_Z7 F_Z7:=fun _ _=>rfl
theorem run_Z125:RT n_Z125 sg_Z125 pol_Z125 F_Z125:=fun _ _=>rfl
theorem run_Z174:RT n_Z174 sg_Z174 pol_Z174 F_Z174:=fun _ _=>rfl
theorem run_Z180:RT n_Z180 sg_Z180 pol_Z180 F_Z180:=fun _ _=>rfl
theorem run_Z184:RT n_Z184 sg_Z184 pol_Z184 F_Z184:=fun _ _=>rfl
theorem run_Z136:RT n_Z136 sg_Z136 pol_Z136 F_Z136:=fun _ _=>rfl
theorem run_Z142:RT n_Z142 sg_Z142 pol_Z142 F_Z142:=fun _ _=>rfl
theorem run_Z23:RT n_Z23 sg_Z23 pol_Z23 F_Z23:=fun _ _=>rfl
theorem run_Z30:RT n_Z30 sg_Z30 pol_Z30 F_Z30:=fun _ _=>rfl
theorem run_Z21:RT n_Z21 sg_Z21 pol_Z21 F_Z21:=fun _ _=>rfl
theorem run_Z78:RT n_Z78 sg_Z78 pol_Z78 F_Z78:=fun _ _=>rfl
theorem run_Z14:RT n_Z14 sg_Z14 pol_Z14 F_Z14:=fun _ _=>rfl
theorem run_Z81:RT n_Z81 sg_Z81 pol_Z81 F_Z81:=fun _ _=>rfl
theorem run_Z64:RT n_Z64 sg_Z64 pol_Z64 F_Z64:=fun _ _=>rfl
theorem run_Z17:RT n_Z17 sg_Z17 pol_Z17 F_Z17:=fun _ _=>rfl
theorem run_Z87:RT n_Z87 sg_Z87 pol_Z87 F_Z87:=fun _ _=>rfl
theorem run_Z27:RT n_Z27 sg_Z27 pol_Z27 F_Z27:=fun _ _=>rfl
theorem run_Z84:RT n_Z84 sg_Z84 pol_Z84 F_Z84:=fun _ _=>rfl
theorem run_Z165:RT n_Z165 sg_Z165 pol_Z165 F_Z165:=fun _ _=>rfl
theorem run_Z123:RT n_Z123 sg_Z123 pol_Z123 F_Z123:=fun _ _=>rfl
theorem run_Z164:RT n_Z164 sg_Z164 pol_Z164 F_Z164:=fun _ _=>rfl
theorem run_Z77:RT n_Z77 sg_Z77 pol_Z77 F_Z77:=fun _ _=>rfl
theorem run_Z101:RT n_Z101 sg_Z101 pol_Z101 F_Z101:=fun _ _=>rfl
theorem run_Z53:RT n_Z53 sg_Z53 pol_Z53 F_Z53:=fun _ _=>rfl
theorem run_Z118:RT n_Z118 sg_Z118 pol_Z118 F_Z118:=fun _ _=>rfl
theorem run_Z18:RT n_Z18 sg_Z18 pol_Z18 F_Z18:=fun _ _=>rfl
theorem run_Z88:RT n_Z88 sg_Z88 pol_Z88 F_Z88:=fun _ _=>rfl
theorem run_Z89:RT n_Z89 sg_Z89 pol_Z89 F_Z89:=fun _ _=>rfl
theorem run_Z169:RT n_Z169 sg_Z169 pol_Z169 F_Z169:=fun _ _=>rfl
theorem run_Z191:RT n_Z191 sg_Z191 pol_Z191 F_Z191:=fun _ _=>rfl
theorem run_Z69:RT n_Z69 sg_Z69 pol_Z69 F_Z69:=fun _ _=>rfl
theorem run_Z68:RT n_Z68 sg_Z68 pol_Z68 F_Z68:=fun _ _=>rfl
theorem run_Z58:RT n_Z58 sg_Z58 pol_Z58 F_Z58:=fun _ _=>rfl
theorem run_Z76:RT n_Z76 sg_Z76 pol_Z76 F_Z76:=fun _ _=>rfl
theorem run_Z74:RT n_Z74 sg_Z74 pol_Z74 F_Z74:=fun _ _=>rfl
theorem run_Z66:RT n_Z66 sg_Z66 pol_Z66 F_Z66:=fun _ _=>rfl
theorem run_Z177:RT n_Z177 sg_Z177 pol_Z177 F_Z177:=fun _ _=>rfl
theorem run_Z195:RT n_Z195 sg_Z195 pol_Z195 F_Z195:=fun _ _=>rfl
theorem run_Z187:RT n_Z187 sg_Z187 pol_Z187 F_Z187:=fun _ _=>rfl
theorem run_Z189:RT n_Z189 sg_Z189 pol_Z189 F_Z189:=fun _ _=>rfl
theorem run_Z107:RT n_Z107 sg_Z107 pol_Z107 F_Z107:=fun _ _=>rfl
theorem run_Z167:RT n_Z167 sg_Z167 pol_Z167 F_Z167:=fun _ _=>rfl
theorem run_Z163:RT n_Z163 sg_Z163 pol_Z163 F_Z163:=fun _ _=>rfl
theorem run_Z153:RT n_Z153 sg_Z153 pol_Z153 F_Z153:=fun _ _=>rfl
theorem run_Z152:RT n_Z152 sg_Z152 pol_Z152 F_Z152:=fun _ _=>rfl
theorem run_Z194:RT n_Z194 sg_Z194 pol_Z194 F_Z194:=fun _ _=>rfl
theorem run_Z192:RT n_Z192 sg_Z192 pol_Z192 F_Z192:=fun _ _=>rfl
theorem run_Z65:RT n_Z65 sg_Z65 pol_Z65 F_Z65:=fun _ _=>rfl
theorem run_Z34:RT n_Z34 sg_Z34 pol_Z34 F_Z34:=fun _ _=>rfl
theorem run_Z190:RT n_Z190 sg_Z190 pol_Z190 F_Z190:=fun _ _=>rfl
theorem run_Z80:RT n_Z80 sg_Z80 pol_Z80 F_Z80:=fun _ _=>rfl
theorem run_Z33:RT n_Z33 sg_Z33 pol_Z33 F_Z33:=fun _ _=>rfl
theorem run_Z98:RT n_Z98 sg_Z98 pol_Z98 F_Z98:=fun _ _=>rfl
theorem run_Z197:RT n_Z197 sg_Z197 pol_Z197 F_Z197:=fun _ _=>rfl
theorem run_Z188:RT n_Z188 sg_Z188 pol_Z188 F_Z188:=fun _ _=>rfl
theorem run_Z52:RT n_Z52 sg_Z52 pol_Z52 F_Z52:=fun _ _=>rfl
theorem run_Z133:RT n_Z133 sg_Z133 pol_Z133 F_Z133:=fun _ _=>rfl
theorem run_Z56:RT n_Z56 sg_Z56 pol_Z56 F_Z56:=fun _ _=>rfl
theorem run_Z79:RT n_Z79 sg_Z79 pol_Z79 F_Z79:=fun _ _=>rfl
theorem run_Z86:RT n_Z86 sg_Z86 pol_Z86 F_Z86:=fun _ _=>rfl
theorem run_Z48:RT n_Z48 sg_Z48 pol_Z48 F_Z48:=fun _ _=>rfl
theorem run_Z36:RT n_Z36 sg_Z36 pol_Z36 F_Z36:=fun _ _=>rfl
theorem run_Z67:RT n_Z67 sg_Z67 pol_Z67 F_Z67:=fun _ _=>rfl
theorem run_Z173:RT n_Z173 sg_Z173 pol_Z173 F_Z173:=fun _ _=>rfl
theorem run_Z171:RT n_Z171 sg_Z171 pol_Z171 F_Z171:=fun _ _=>rfl
theorem run_Z170:RT n_Z170 sg_Z170 pol_Z170 F_Z170:=fun _ _=>rfl
theorem run_Z179:RT n_Z179 sg_Z179 pol_Z179 F_Z179:=fun _ _=>rfl
theorem run_Z168:RT n_Z168 sg_Z168 pol_Z168 F_Z168:=fun _ _=>rfl
theorem run_Z144:RT n_Z144 sg_Z144 pol_Z144 F_Z144:=fun _ _=>rfl
theorem run_Z183:RT n_Z183 sg_Z183 pol_Z183 F_Z183:=fun _ _=>rfl
theorem run_Z172:RT n_Z172 sg_Z172 pol_Z172 F_Z172:=fun _ _=>rfl
theorem run_Z178:RT n_Z178 sg_Z178 pol_Z178 F_Z178:=fun _ _=>rfl
theorem run_Z181:RT n_Z181 sg_Z181 pol_Z181 F_Z181:=fun _ _=>rfl
theorem run_Z127:RT n_Z127 sg_Z127 pol_Z127 F_Z127:=fun _ _=>rfl
theorem run_Z134:RT n_Z134 sg_Z134 pol_Z134 F_Z134:=fun _ _=>rfl
theorem run_Z62:RT n_Z62 sg_Z62 pol_Z62 F_Z62:=fun _ _=>rfl
theorem run_Z82:RT n_Z82 sg_Z82 pol_Z82 F_Z82:=fun _ _=>rfl
theorem run_Z31:RT n_Z31 sg_Z31 pol_Z31 F_Z31:=fun _ _=>rfl
theorem run_Z143:RT n_Z143 sg_Z143 pol_Z143 F_Z143:=fun _ _=>rfl
theorem run_Z155:RT n_Z155 sg_Z155 pol_Z155 F_Z155:=fun _ _=>rfl
theorem run_Z162:RT n_Z162 sg_Z162 pol_Z162 F_Z162:=fun _ _=>rfl
theorem run_Z175:RT n_Z175 sg_Z175 pol_Z175 F_Z175:=fun _ _=>rfl
theorem run_Z38:RT n_Z38 sg_Z38 pol_Z38 F_Z38:=fun _ _=>rfl
theorem run_Z12:RT n_Z12 sg_Z12 pol_Z12 F_Z12:=fun _ _=>rfl
theorem run_Z41:RT n_Z41 sg_Z41 pol_Z41 F_Z41:=fun _ _=>rfl
theorem run_Z37:RT n_Z37 sg_Z37 pol_Z37 F_Z37:=fun _ _=>rfl
theorem run_Z49:RT n_Z49 sg_Z49 pol_Z49 F_Z49:=fun _ _=>rfl
theorem run_Z11:RT n_Z11 sg_Z11 pol_Z11 F_Z11:=fun _ _=>rfl
theorem run_Z22:RT n_Z22 sg_Z22 pol_Z22 F_Z22:=fun _ _=>rfl
theorem run_Z135:RT n_Z135 sg_Z135 pol_Z135 F_Z135:=fun _ _=>rfl
theorem run_Z129:RT n_Z129 sg_Z129 pol_Z129 F_Z129:=fun _ _=>rfl
theorem run_Z147:RT n_Z147 sg_Z147 pol_Z147 F_Z147:=fun _ _=>rfl
theorem run_Z19:RT n_Z19 sg_Z19 pol_Z19 F_Z19:=fun _ _=>rfl
theorem run_Z32:RT n_Z32 sg_Z32 pol_Z32 F_Z32:=fun _ _=>rfl
theorem run_Z99:RT n_Z99 sg_Z99 pol_Z99 F_Z99:=fun _ _=>rfl
theorem run_Z42:RT n_Z42 sg_Z42 pol_Z42 F_Z42:=fun _ _=>rfl
theorem run_Z15:RT n_Z15 sg_Z15 pol_Z15 F_Z15:=fun _ _=>rfl
theorem run_Z39:RT n_Z39 sg_Z39 pol_Z39 F_Z39:=fun _ _=>rfl
theorem run_Z106:RT n_Z106 sg_Z106 pol_Z106 F_Z106:=fun _ _=>rfl
theorem run_Z73:RT n_Z73 sg_Z73 pol_Z73 F_Z73:=fun _ _=>rfl
theorem run_Z28:RT n_Z28 sg_Z28 pol_Z28 F_Z28:=fun _ _=>rfl
theorem run_Z96:RT n_Z96 sg_Z96 pol_Z96 F_Z96:=fun _ _=>rfl
theorem run_Z29:RT n_Z29 sg_Z29 pol_Z29 F_Z29:=fun _ _=>rfl
theorem run_Z43:RT n_Z43 sg_Z43 pol_Z43 F_Z43:=fun _ _=>rfl
theorem run_Z85:RT n_Z85 sg_Z85 pol_Z85 F_Z85:=fun _ _=>rfl
theorem run_Z158:RT n_Z158 sg_Z158 pol_Z158 F_Z158:=fun _ _=>rfl
theorem run_Z161:RT n_Z161 sg_Z161 pol_Z161 F_Z161:=fun _ _=>rfl
theorem run_Z141:RT n_Z141 sg_Z141 pol_Z141 F_Z141:=fun _ _=>rfl
theorem run_Z150:RT n_Z150 sg_Z150 pol_Z150 F_Z150:=fun _ _=>rfl
theorem run_Z159:RT n_Z159 sg_Z159 pol_Z159 F_Z159:=fun _ _=>rfl
theorem run_Z160:RT n_Z160 sg_Z160 pol_Z160 F_Z160:=fun _ _=>rfl
theorem run_Z112:RT n_Z112 sg_Z112 pol_Z112 F_Z112:=fun _ _=>rfl
theorem run_Z94:RT n_Z94 sg_Z94 pol_Z94 F_Z94:=fun _ _=>rfl
theorem run_Z55:RT n_Z55 sg_Z55 pol_Z55 F_Z55:=fun _ _=>rfl
theorem run_Z71:RT n_Z71 sg_Z71 pol_Z71 F_Z71:=fun _ _=>rfl
theorem run_Z13:RT n_Z13 sg_Z13 pol_Z13 F_Z13:=fun _ _=>rfl
theorem run_Z90:RT n_Z90 sg_Z90 pol_Z90 F_Z90:=fun _ _=>rfl
theorem run_Z26:RT n_Z26 sg_Z26 pol_Z26 F_Z26:=fun _ _=>rfl
theorem run_Z59:RT n_Z59 sg_Z59 pol_Z59 F_Z59:=fun _ _=>rfl
theorem run_Z75:RT n_Z75 sg_Z75 pol_Z75 F_Z75:=fun _ _=>rfl
theorem run_Z196:RT n_Z196 sg_Z196 pol_Z196 F_Z196:=fun _ _=>rfl
theorem run_Z182:RT n_Z182 sg_Z182 pol_Z182 F_Z182:=fun _ _=>rfl
theorem run_Z132:RT n_Z132 sg_Z132 pol_Z132 F_Z132:=fun _ _=>rfl
theorem run_Z186:RT n_Z186 sg_Z186 pol_Z186 F_Z186:=fun _ _=>rfl
theorem run_Z156:RT n_Z156 sg_Z156 pol_Z156 F_Z156:=fun _ _=>rfl
theorem run_Z198:RT n_Z198 sg_Z198 pol_Z198 F_Z198:=fun _ _=>rfl
theorem run_Z199:RT n_Z199 sg_Z199 pol_Z199 F_Z199:=fun _ _=>rfl
theorem run_Z200:RT n_Z200 sg_Z200 pol_Z200 F_Z200:=fun _ _=>rfl
theorem run_Z131:RT n_Z131 sg_Z131 pol_Z131 F_Z131:=fun _ _=>rfl
theorem run_Z149:RT n_Z149 sg_Z149 pol_Z149 F_Z149:=fun _ _=>rfl
theorem run_Z157:RT n_Z157 sg_Z157 pol_Z157 F_Z157:=fun _ _=>rfl
theorem run_Z138:RT n_Z138 sg_Z138 pol_Z138 F_Z138:=fun _ _=>rfl
theorem run_Z139:RT n_Z139 sg_Z139 pol_Z139 F_Z139:=fun _ _=>rfl
theorem run_Z137:RT n_Z137 sg_Z137 pol_Z137 F_Z137:=fun _ _=>rfl
theorem run_Z51:RT n_Z51 sg_Z51 pol_Z51 F_Z51:=fun _ _=>rfl
theorem run_Z35:RT n_Z35 sg_Z35 pol_Z35 F_Z35:=fun _ _=>rfl
theorem sig_slices_Grow_Sint64_int64_eq:E.sig n_Z108=some sg_Z108:=rfl
theorem run_Z193:RT n_Z193 sg_Z193 pol_Z193 F_Z193:=fun _ _=>rfl
theorem run_Z154:RT n_Z154 sg_Z154 pol_Z154 F_Z154:=fun _ _=>rfl
theorem run_Z176:RT n_Z176 sg_Z176 pol_Z176 F_Z176:=fun _ _=>rfl
theorem run_Z122:RT n_Z122 sg_Z122 pol_Z122 F_Z122:=fun _ _=>rfl
theorem run_Z24:RT n_Z24 sg_Z24 pol_Z24 F_Z24:=fun _ _=>rfl
theorem run_Z83:RT n_Z83 sg_Z83 pol_Z83 F_Z83:=fun _ _=>rfl
theorem run_Z50:RT n_Z50 sg_Z50 pol_Z50 F_Z50:=fun _ _=>rfl
theorem run_Z151:RT n_Z151 sg_Z151 pol_Z151 F_Z151:=fun _ _=>rfl
theorem run_Z126:RT n_Z126 sg_Z126 pol_Z126 F_Z126:=fun _ _=>rfl
theorem run_Z148:RT n_Z148 sg_Z148 pol_Z148 F_Z148:=fun _ _=>rfl
theorem run_Z60:RT n_Z60 sg_Z60 pol_Z60 F_Z60:=fun _ _=>rfl
theorem run_Z20:RT n_Z20 sg_Z20 pol_Z20 F_Z20:=fun _ _=>rfl
theorem run_Z63:RT n_Z63 sg_Z63 pol_Z63 F_Z63:=fun _ _=>rfl
theorem run_Z2:RT n_Z2 sg_Z2 pol_Z2 F_Z2:=fun _ _=>rfl
theorem run_Z0:RT n_Z0 sg_Z0 pol_Z0 F_Z0:=fun _ _=>rfl
theorem run_Z97:RT n_Z97 sg_Z97 pol_Z97 F_Z97:=fun _ _=>rfl
theorem run_Z109:RT n_Z109 sg_Z109 pol_Z109 F_Z109:=fun _ _=>rfl
theorem run_Z40:RT n_Z40 sg_Z40 pol_Z40 F_Z40:=fun _ _=>rfl
theorem run_Z54:RT n_Z54 sg_Z54 pol_Z54 F_Z54:=fun _ _=>rfl
theorem run_Z166:RT n_Z166 sg_Z166 pol_Z166 F_Z166:=fun _ _=>rfl
theorem run_Z130:RT n_Z130 sg_Z130 pol_Z130 F_Z130:=fun _ _=>rfl
theorem run_Z16:RT n_Z16 sg_Z16 pol_Z16 F_Z16:=fun _ _=>rfl
theorem run_Z72:RT n_Z72 sg_Z72 pol_Z72 F_Z72:=fun _ _=>rfl
theorem run_Z185:RT n_Z185 sg_Z185 pol_Z185 F_Z185:=fun _ _=>rfl
theorem run_Z140:RT n_Z140 sg_Z140 pol_Z140 F_Z140:=fun _ _=>rfl
theorem run_Z128:RT n_Z128 sg_Z128 pol_Z128 F_Z128:=fun _ _=>rfl
theorem run_Z146:RT n_Z146 sg_Z146 pol_Z146 F_Z146:=fun _ _=>rfl
theorem run_Z25:RT n_Z25 sg_Z25 pol_Z25 F_Z25:=fun _ _=>rfl
theorem run_Z57:RT n_Z57 sg_Z57 pol_Z57 F_Z57:=fun _ _=>rfl
theorem run_Z145:RT n_Z145 sg_Z145 pol_Z145 F_Z145:=fun _ _=>rfl
theorem run_Z3:RT n_Z3 sg_Z3 pol_Z3 F_Z3:=fun _ _=>rfl
theorem run_Z1:RT n_Z1 sg_Z1 pol_Z1 F_Z1:=fun _ _=>rfl
theorem run_Z70:RT n_Z70 sg_Z70 pol_Z70 F_Z70:=fun _ _=>rfl
theorem run_Z61:RT n_Z61 sg_Z61 pol_Z61 F_Z61:=fun _ _=>rfl
theorem run_Z4:RT n_Z4 sg_Z4 pol_Z4 F_Z4:=fun _ _=>rfl
abbrev eC(R:Run)(q:Pol)(N:Nat)(l:List Nat)(F:Func):=qcc E R q N (sub l (bodyOf F))
abbrev kB(R:Run)(q:Pol)(k:Nat)(K:Kt):=qs9 (qhf R q.blkM k) k K
abbrev kS(R:Run)(q:Pol)(k N:Nat)(l:List Nat)(F:Func)(K:Kt):=qs7 (qhf R q.seqM k) (qcc E R q N (sub l (bodyOf F))) K
abbrev kL(R:Run)(q:Pol)(k N:Nat)(l:List Nat)(F:Func)(n:Nat)(K:Kt):=qs4 (qcc E R q N (sub l (bodyOf F))) (qhf R q.loopM k) n K
abbrev lC(R:Run)(q:Pol)(k N:Nat)(l:List Nat)(F:Func)(n:Nat)(s:Ve.St)(K:Kt):=qpi (qcc E R q N (sub l (bodyOf F))) (qhf R q.loopM k) n s K
end
end VeT
