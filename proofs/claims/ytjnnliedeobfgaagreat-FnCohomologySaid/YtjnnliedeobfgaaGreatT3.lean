import Derived.Test.YtjnnliedeobfgaaGreatV2
import Derived.Test.YtjnnliedeobfgaaGreatProg
import Derived.KernelRfl
set_option linter.unusedVariables false
set_option linter.unusedSimpArgs false
open Go Go.Proofs Ve
set_option maxRecDepth 100000
namespace VeT
abbrev yM : Ty := .cons (.int .i64) (.cons (.int .i64) (.cons (.int .i64) (.cons (.sl (.int .i64)) .nil)))
abbrev yI : Ty := .int .i64
abbrev yL : Ty := .sl yI
abbrev yK : Ty := .sl yL
abbrev yN : Ty := .sl (.st yM)
abbrev yS : Ty := .cons yK (.cons yI (.cons yL (.cons yN .nil)))
abbrev yR : Ty := .cons (.sl (.int .u8)) (.cons yI (.cons (.int .u64) .nil))
abbrev yC : Ty := .cons yK .nil
abbrev vM := Int × Int × Int × List Int × Unit
abbrev vK := List (List Int)
abbrev vN := List vM
abbrev vS := vK × Int × List Int × vN × Unit
noncomputable section
def bodyOf(f:Func):Code:=f.body.getD .skip
def zd:Nat→List Ve.V→List Ve.V
  | 0,t=>t
  | n+1,t=>V.dead::zd n t
def zo:Nat→List (Option Ve.Obj)→List (Option Ve.Obj)
  | 0,t=>t
  | n+1,t=>none::zo n t
abbrev n_Z98:Nat:=5
abbrev n_Z100:Nat:=11
abbrev n_Z132:Nat:=12
abbrev n_Z99:Nat:=13
abbrev n_Z7:Nat:=14
abbrev n_Z133:Nat:=15
abbrev n_Z131:Nat:=16
abbrev n_Z11:Nat:=17
abbrev n_Z101:Nat:=19
abbrev n_Z16:Nat:=21
abbrev n_Z5:Nat:=22
abbrev n_Z8:Nat:=30
abbrev n_Z18:Nat:=31
abbrev n_Z6:Nat:=32
abbrev n_Z12:Nat:=33
abbrev n_Z9:Nat:=34
abbrev n_Z129:Nat:=35
abbrev n_Z13:Nat:=41
abbrev n_Z135:Nat:=78
abbrev n_Z177:Nat:=79
abbrev n_Z57:Nat:=80
abbrev n_Z36:Nat:=81
abbrev n_Z181:Nat:=82
abbrev n_Z159:Nat:=83
abbrev n_Z184:Nat:=84
abbrev n_Z144:Nat:=85
abbrev n_Z93:Nat:=86
abbrev n_Z63:Nat:=87
abbrev n_Z34:Nat:=89
abbrev n_Z76:Nat:=93
abbrev n_Z28:Nat:=94
abbrev n_Z35:Nat:=95
abbrev n_Z26:Nat:=96
abbrev n_Z84:Nat:=103
abbrev n_Z59:Nat:=104
abbrev n_Z169:Nat:=106
abbrev n_Z19:Nat:=108
abbrev n_Z88:Nat:=111
abbrev n_Z72:Nat:=112
abbrev n_Z22:Nat:=113
abbrev n_Z94:Nat:=114
abbrev n_Z31:Nat:=115
abbrev n_Z47:Nat:=116
abbrev n_Z81:Nat:=117
abbrev n_Z10:Nat:=118
abbrev n_Z91:Nat:=119
abbrev n_Z165:Nat:=120
abbrev n_Z134:Nat:=121
abbrev n_Z170:Nat:=122
abbrev n_Z164:Nat:=125
abbrev n_Z83:Nat:=128
abbrev n_Z110:Nat:=129
abbrev n_Z60:Nat:=132
abbrev n_Z127:Nat:=133
abbrev n_Z23:Nat:=134
abbrev n_Z95:Nat:=135
abbrev n_Z96:Nat:=137
abbrev n_Z80:Nat:=143
abbrev n_Z58:Nat:=154
abbrev n_Z116:Nat:=155
abbrev n_Z167:Nat:=156
abbrev n_Z163:Nat:=157
abbrev n_Z171:Nat:=158
abbrev n_Z154:Nat:=160
abbrev n_Z70:Nat:=168
abbrev n_Z86:Nat:=173
abbrev n_Z107:Nat:=175
abbrev n_Z141:Nat:=179
abbrev n_Z85:Nat:=181
abbrev n_Z176:Nat:=186
abbrev n_Z174:Nat:=187
abbrev n_Z173:Nat:=188
abbrev n_Z180:Nat:=189
abbrev n_Z168:Nat:=190
abbrev n_Z147:Nat:=191
abbrev n_Z64:Nat:=192
abbrev n_Z183:Nat:=193
abbrev n_Z175:Nat:=194
abbrev n_Z179:Nat:=195
abbrev n_Z182:Nat:=196
abbrev n_Z136:Nat:=197
abbrev n_Z142:Nat:=198
abbrev n_Z68:Nat:=199
abbrev n_Z89:Nat:=201
abbrev n_Z87:Nat:=202
abbrev n_Z37:Nat:=203
abbrev n_Z146:Nat:=205
abbrev n_Z156:Nat:=206
abbrev n_Z162:Nat:=207
abbrev n_Z172:Nat:=210
abbrev n_Z44:Nat:=211
abbrev n_Z15:Nat:=212
abbrev n_Z48:Nat:=213
abbrev n_Z43:Nat:=214
abbrev n_Z55:Nat:=215
abbrev n_Z14:Nat:=216
abbrev n_Z27:Nat:=217
abbrev n_Z143:Nat:=218
abbrev n_Z137:Nat:=222
abbrev n_Z39:Nat:=225
abbrev n_Z41:Nat:=226
abbrev n_Z24:Nat:=229
abbrev n_Z38:Nat:=230
abbrev n_Z108:Nat:=231
abbrev n_Z49:Nat:=232
abbrev n_Z20:Nat:=233
abbrev n_Z45:Nat:=237
abbrev n_Z115:Nat:=238
abbrev n_Z79:Nat:=239
abbrev n_Z32:Nat:=240
abbrev n_Z104:Nat:=241
abbrev n_Z33:Nat:=242
abbrev n_Z42:Nat:=243
abbrev n_Z50:Nat:=244
abbrev n_Z92:Nat:=245
abbrev n_Z157:Nat:=246
abbrev n_Z161:Nat:=247
abbrev n_Z145:Nat:=248
abbrev n_Z152:Nat:=249
abbrev n_Z158:Nat:=250
abbrev n_Z160:Nat:=251
abbrev n_Z121:Nat:=253
abbrev n_Z102:Nat:=254
abbrev n_Z62:Nat:=255
abbrev n_Z77:Nat:=256
abbrev n_Z17:Nat:=257
abbrev n_Z97:Nat:=258
abbrev n_Z140:Nat:=266
abbrev n_Z128:Nat:=272
abbrev n_Z105:Nat:=273
abbrev n_Z139:Nat:=274
abbrev n_Z151:Nat:=275
abbrev n_Z71:Nat:=281
abbrev n_Z117:Nat:=285
abbrev n_Z155:Nat:=287
abbrev n_Z178:Nat:=288
abbrev n_Z130:Nat:=289
abbrev n_Z29:Nat:=290
abbrev n_Z90:Nat:=292
abbrev n_Z56:Nat:=293
abbrev n_Z40:Nat:=295
abbrev n_Z153:Nat:=298
abbrev n_Z150:Nat:=300
abbrev n_Z66:Nat:=301
abbrev n_Z25:Nat:=302
abbrev n_Z69:Nat:=303
abbrev n_Z2:Nat:=304
abbrev n_Z0:Nat:=305
abbrev n_Z106:Nat:=306
abbrev n_Z118:Nat:=307
abbrev n_Z46:Nat:=310
abbrev n_Z61:Nat:=311
abbrev n_Z166:Nat:=312
abbrev n_Z138:Nat:=313
abbrev n_Z21:Nat:=314
abbrev n_Z78:Nat:=315
abbrev n_Z149:Nat:=320
abbrev n_Z30:Nat:=321
abbrev n_Z65:Nat:=322
abbrev n_Z73:Nat:=324
abbrev n_Z148:Nat:=326
abbrev n_Z3:Nat:=327
abbrev n_Z1:Nat:=328
abbrev n_Z75:Nat:=340
abbrev n_Z67:Nat:=341
abbrev n_Z74:Nat:=350
abbrev n_Z4:Nat:=351
abbrev F_Z98:Func:=Tryz.f5
abbrev F_Z100:Func:=Tryz.f11
abbrev F_Z132:Func:=Tryz.f12
abbrev F_Z99:Func:=Tryz.f13
abbrev F_Z7:Func:=Tryz.f14
abbrev F_Z133:Func:=Tryz.f15
abbrev F_Z131:Func:=Tryz.f16
abbrev F_Z11:Func:=Tryz.f17
abbrev F_Z101:Func:=Tryz.f19
abbrev F_Z16:Func:=Tryz.f21
abbrev F_Z5:Func:=Tryz.f22
abbrev F_Z8:Func:=Tryz.f30
abbrev F_Z18:Func:=Tryz.f31
abbrev F_Z6:Func:=Tryz.f32
abbrev F_Z12:Func:=Tryz.f33
abbrev F_Z9:Func:=Tryz.f34
abbrev F_Z129:Func:=Tryz.f35
abbrev F_Z13:Func:=Tryz.f41
abbrev F_Z135:Func:=Tryz.f78
abbrev F_Z177:Func:=Tryz.f79
abbrev F_Z57:Func:=Tryz.f80
abbrev F_Z36:Func:=Tryz.f81
abbrev F_Z181:Func:=Tryz.f82
abbrev F_Z159:Func:=Tryz.f83
abbrev F_Z184:Func:=Tryz.f84
abbrev F_Z144:Func:=Tryz.f85
abbrev F_Z93:Func:=Tryz.f86
abbrev F_Z63:Func:=Tryz.f87
abbrev F_Z34:Func:=Tryz.f89
abbrev F_Z76:Func:=Tryz.f93
abbrev F_Z28:Func:=Tryz.f94
abbrev F_Z35:Func:=Tryz.f95
abbrev F_Z26:Func:=Tryz.f96
abbrev F_Z84:Func:=Tryz.f103
abbrev F_Z59:Func:=Tryz.f104
abbrev F_Z169:Func:=Tryz.f106
abbrev F_Z19:Func:=Tryz.f108
abbrev F_Z88:Func:=Tryz.f111
abbrev F_Z72:Func:=Tryz.f112
abbrev F_Z22:Func:=Tryz.f113
abbrev F_Z94:Func:=Tryz.f114
abbrev F_Z31:Func:=Tryz.f115
abbrev F_Z47:Func:=Tryz.f116
abbrev F_Z81:Func:=Tryz.f117
abbrev F_Z10:Func:=Tryz.f118
abbrev F_Z91:Func:=Tryz.f119
abbrev F_Z165:Func:=Tryz.f120
abbrev F_Z134:Func:=Tryz.f121
abbrev F_Z170:Func:=Tryz.f122
abbrev F_Z164:Func:=Tryz.f125
abbrev F_Z83:Func:=Tryz.f128
abbrev F_Z110:Func:=Tryz.f129
abbrev F_Z60:Func:=Tryz.f132
abbrev F_Z127:Func:=Tryz.f133
abbrev F_Z23:Func:=Tryz.f134
abbrev F_Z95:Func:=Tryz.f135
abbrev F_Z96:Func:=Tryz.f137
abbrev F_Z80:Func:=Tryz.f143
abbrev F_Z58:Func:=Tryz.f154
abbrev F_Z116:Func:=Tryz.f155
abbrev F_Z167:Func:=Tryz.f156
abbrev F_Z163:Func:=Tryz.f157
abbrev F_Z171:Func:=Tryz.f158
abbrev F_Z154:Func:=Tryz.f160
abbrev F_Z70:Func:=Tryz.f168
abbrev F_Z86:Func:=Tryz.f173
abbrev F_Z107:Func:=Tryz.f175
abbrev F_Z141:Func:=Tryz.f179
abbrev F_Z85:Func:=Tryz.f181
abbrev F_Z176:Func:=Tryz.f186
abbrev F_Z174:Func:=Tryz.f187
abbrev F_Z173:Func:=Tryz.f188
abbrev F_Z180:Func:=Tryz.f189
abbrev F_Z168:Func:=Tryz.f190
abbrev F_Z147:Func:=Tryz.f191
abbrev F_Z64:Func:=Tryz.f192
abbrev F_Z183:Func:=Tryz.f193
abbrev F_Z175:Func:=Tryz.f194
abbrev F_Z179:Func:=Tryz.f195
abbrev F_Z182:Func:=Tryz.f196
abbrev F_Z136:Func:=Tryz.f197
abbrev F_Z142:Func:=Tryz.f198
abbrev F_Z68:Func:=Tryz.f199
abbrev F_Z89:Func:=Tryz.f201
abbrev F_Z87:Func:=Tryz.f202
abbrev F_Z37:Func:=Tryz.f203
abbrev F_Z146:Func:=Tryz.f205
abbrev F_Z156:Func:=Tryz.f206
abbrev F_Z162:Func:=Tryz.f207
abbrev F_Z172:Func:=Tryz.f210
abbrev F_Z44:Func:=Tryz.f211
abbrev F_Z15:Func:=Tryz.f212
abbrev F_Z48:Func:=Tryz.f213
abbrev F_Z43:Func:=Tryz.f214
abbrev F_Z55:Func:=Tryz.f215
abbrev F_Z14:Func:=Tryz.f216
abbrev F_Z27:Func:=Tryz.f217
abbrev F_Z143:Func:=Tryz.f218
abbrev F_Z137:Func:=Tryz.f222
abbrev F_Z39:Func:=Tryz.f225
abbrev F_Z41:Func:=Tryz.f226
abbrev F_Z24:Func:=Tryz.f229
abbrev F_Z38:Func:=Tryz.f230
abbrev F_Z108:Func:=Tryz.f231
abbrev F_Z49:Func:=Tryz.f232
abbrev F_Z20:Func:=Tryz.f233
abbrev F_Z45:Func:=Tryz.f237
abbrev F_Z115:Func:=Tryz.f238
abbrev F_Z79:Func:=Tryz.f239
abbrev F_Z32:Func:=Tryz.f240
abbrev F_Z104:Func:=Tryz.f241
abbrev F_Z33:Func:=Tryz.f242
abbrev F_Z42:Func:=Tryz.f243
abbrev F_Z50:Func:=Tryz.f244
abbrev F_Z92:Func:=Tryz.f245
abbrev F_Z157:Func:=Tryz.f246
abbrev F_Z161:Func:=Tryz.f247
abbrev F_Z145:Func:=Tryz.f248
abbrev F_Z152:Func:=Tryz.f249
abbrev F_Z158:Func:=Tryz.f250
abbrev F_Z160:Func:=Tryz.f251
abbrev F_Z121:Func:=Tryz.f253
abbrev F_Z102:Func:=Tryz.f254
abbrev F_Z62:Func:=Tryz.f255
abbrev F_Z77:Func:=Tryz.f256
abbrev F_Z17:Func:=Tryz.f257
abbrev F_Z97:Func:=Tryz.f258
abbrev F_Z140:Func:=Tryz.f266
abbrev F_Z128:Func:=Tryz.f272
abbrev F_Z105:Func:=Tryz.f273
abbrev F_Z139:Func:=Tryz.f274
abbrev F_Z151:Func:=Tryz.f275
abbrev F_Z71:Func:=Tryz.f281
abbrev F_Z117:Func:=Tryz.f285
abbrev F_Z155:Func:=Tryz.f287
abbrev F_Z178:Func:=Tryz.f288
abbrev F_Z130:Func:=Tryz.f289
abbrev F_Z29:Func:=Tryz.f290
abbrev F_Z90:Func:=Tryz.f292
abbrev F_Z56:Func:=Tryz.f293
abbrev F_Z40:Func:=Tryz.f295
abbrev F_Z153:Func:=Tryz.f298
abbrev F_Z150:Func:=Tryz.f300
abbrev F_Z66:Func:=Tryz.f301
abbrev F_Z25:Func:=Tryz.f302
abbrev F_Z69:Func:=Tryz.f303
abbrev F_Z2:Func:=Tryz.f304
abbrev F_Z0:Func:=Tryz.f305
abbrev F_Z106:Func:=Tryz.f306
abbrev F_Z118:Func:=Tryz.f307
abbrev F_Z46:Func:=Tryz.f310
abbrev F_Z61:Func:=Tryz.f311
abbrev F_Z166:Func:=Tryz.f312
abbrev F_Z138:Func:=Tryz.f313
abbrev F_Z21:Func:=Tryz.f314
abbrev F_Z78:Func:=Tryz.f315
abbrev F_Z149:Func:=Tryz.f320
abbrev F_Z30:Func:=Tryz.f321
abbrev F_Z65:Func:=Tryz.f322
abbrev F_Z73:Func:=Tryz.f324
abbrev F_Z148:Func:=Tryz.f326
abbrev F_Z3:Func:=Tryz.f327
abbrev F_Z1:Func:=Tryz.f328
abbrev F_Z75:Func:=Tryz.f340
abbrev F_Z67:Func:=Tryz.f341
abbrev F_Z74:Func:=Tryz.f350
abbrev F_Z4:Func:=Tryz.f351
abbrev o_Z98:Ty:=(.cons .bool .nil)
def sg_Z98:Sig:=⟨[(false,1),(false,1)],[],o_Z98,[(false,1)],[],[]⟩
abbrev o_Z100:Ty:=(.cons .bool .nil)
def sg_Z100:Sig:=⟨[(false,1),(false,1)],[],o_Z100,[(false,1)],[],[]⟩
abbrev o_Z132:Ty:=yS
def sg_Z132:Sig:=⟨[(false,1)],[],o_Z132,[(true,4)],[.deep,.imm,.deep,.own],[]⟩
abbrev o_Z99:Ty:=(.cons yI .nil)
def sg_Z99:Sig:=⟨[(false,1),(false,1),(false,1)],[],o_Z99,[(false,1)],[],[]⟩
abbrev o_Z7:Ty:=(.cons yK (.cons yI .nil))
def sg_Z7:Sig:=⟨[(true,4),(false,1)],[],o_Z7,[(false,1),(false,1)],[.deep,.imm],[]⟩
abbrev o_Z133:Ty:=(.cons yI (.cons yI .nil))
def sg_Z133:Sig:=⟨[(true,4),(false,1)],[],o_Z133,[(false,1),(false,1)],[],[]⟩
abbrev o_Z131:Ty:=(.cons yL .nil)
def sg_Z131:Sig:=⟨[(false,1),(false,1),(false,1)],[],o_Z131,[(false,1)],[.deep],[]⟩
abbrev o_Z11:Ty:=(.cons .bool .nil)
def sg_Z11:Sig:=⟨[(true,4),(false,1),(false,1)],[],o_Z11,[(false,1)],[],[]⟩
abbrev o_Z101:Ty:=(.cons .bool .nil)
def sg_Z101:Sig:=⟨[(false,1),(false,1)],[],o_Z101,[(false,1)],[],[]⟩
abbrev o_Z16:Ty:=(.cons yL (.cons yI .nil))
def sg_Z16:Sig:=⟨[(true,4),(false,1),(false,1)],[],o_Z16,[(false,1),(false,1)],[.deep,.imm],[]⟩
abbrev o_Z5:Ty:=(.cons yL (.cons yI .nil))
def sg_Z5:Sig:=⟨[(true,4),(false,1),(false,1)],[],o_Z5,[(false,1),(false,1)],[.deep,.imm],[]⟩
abbrev o_Z8:Ty:=(.cons yL (.cons yI .nil))
def sg_Z8:Sig:=⟨[(true,4)],[],o_Z8,[(false,1),(false,1)],[.deep,.imm],[]⟩
abbrev o_Z18:Ty:=(.cons yI (.cons yI .nil))
def sg_Z18:Sig:=⟨[(true,4)],[],o_Z18,[(false,1),(false,1)],[],[]⟩
abbrev o_Z6:Ty:=(.cons yK (.cons yI .nil))
def sg_Z6:Sig:=⟨[(true,4),(false,1)],[],o_Z6,[(false,1),(false,1)],[.deep,.imm],[]⟩
abbrev o_Z12:Ty:=(.cons .bool .nil)
def sg_Z12:Sig:=⟨[(true,4),(false,1),(false,1)],[],o_Z12,[(false,1)],[],[]⟩
abbrev o_Z9:Ty:=(.cons yK (.cons yI (.cons yL (.cons yN (.cons yI .nil)))))
def sg_Z9:Sig:=⟨[(true,1),(false,1),(false,1)],[],o_Z9,[(true,4),(false,1)],[.deep,.imm,.deep,.deep,.imm],[]⟩
abbrev o_Z129:Ty:=(.cons yL (.cons yI .nil))
def sg_Z129:Sig:=⟨[(true,1),(false,1)],[],o_Z129,[(false,1),(false,1)],[.deep,.imm],[]⟩
abbrev o_Z13:Ty:=(.cons .bool .nil)
def sg_Z13:Sig:=⟨[(true,4)],[],o_Z13,[(false,1)],[],[]⟩
abbrev o_Z135:Ty:=(.cons (.ptr yR) .nil)
def sg_Z135:Sig:=⟨[(false,1)],[],o_Z135,[(false,1)],[.bx],[]⟩
abbrev o_Z177:Ty:=(.cons yK (.cons yI (.cons yL (.cons yN (.cons (.ptr yR) .nil)))))
def sg_Z177:Sig:=⟨[(false,1)],[.iob],o_Z177,[(true,4)],[.deep,.imm,.deep,.own],[(.ptr yR)]⟩
abbrev o_Z57:Ty:=(.cons yI .nil)
def sg_Z57:Sig:=⟨[(true,4),(false,1)],[],o_Z57,[(false,1)],[],[]⟩
abbrev o_Z36:Ty:=yC
def sg_Z36:Sig:=⟨[(true,4),(false,1)],[],o_Z36,[(false,1)],[.deep],[]⟩
abbrev o_Z181:Ty:=(.cons .bool .nil)
def sg_Z181:Sig:=⟨[(false,1)],[],o_Z181,[(false,1)],[],[(.ptr yS)]⟩
abbrev o_Z159:Ty:=(.cons .bool .nil)
def sg_Z159:Sig:=⟨[(false,1)],[],o_Z159,[(false,1)],[],[]⟩
abbrev o_Z184:Ty:=(.cons yI .nil)
def sg_Z184:Sig:=⟨[(false,1),(false,1),(false,1)],[],o_Z184,[(false,1)],[],[(.ptr yC)]⟩
abbrev o_Z144:Ty:=(.cons yI (.cons (.ptr yR) .nil))
def sg_Z144:Sig:=⟨[(false,1),(false,1)],[.iob,.imm],o_Z144,[(false,1)],[],[(.ptr yR)]⟩
abbrev o_Z93:Ty:=(.cons yI .nil)
def sg_Z93:Sig:=⟨[(true,4),(false,1),(false,1)],[],o_Z93,[(false,1)],[],[]⟩
abbrev o_Z63:Ty:=(.cons .bool .nil)
def sg_Z63:Sig:=⟨[(true,4),(false,1),(false,1)],[],o_Z63,[(false,1)],[],[]⟩
abbrev o_Z34:Ty:=(.cons yI (.cons yI yC))
def sg_Z34:Sig:=⟨[(true,4),(false,1)],[],o_Z34,[(true,3)],[.imm,.imm,.deep],[]⟩
abbrev o_Z76:Ty:=(.cons yL (.cons .bool .nil))
def sg_Z76:Sig:=⟨[(true,4),(false,1),(false,1)],[],o_Z76,[(false,1),(false,1)],[.deep,.imm],[]⟩
abbrev o_Z28:Ty:=(.cons yL .nil)
def sg_Z28:Sig:=⟨[(true,4),(false,1)],[],o_Z28,[(false,1)],[.deep],[]⟩
abbrev o_Z35:Ty:=yM
def sg_Z35:Sig:=⟨[(true,4),(false,1)],[],o_Z35,[(true,4)],[.imm,.imm,.imm,.deep],[]⟩
abbrev o_Z26:Ty:=(.cons yL .nil)
def sg_Z26:Sig:=⟨[(false,1),(false,1),(false,1),(false,1)],[],o_Z26,[(false,1)],[.deep],[]⟩
abbrev o_Z84:Ty:=(.cons yI .nil)
def sg_Z84:Sig:=⟨[(false,1)],[],o_Z84,[(false,1)],[],[]⟩
abbrev o_Z59:Ty:=yC
def sg_Z59:Sig:=⟨[(true,3),(false,1)],[.imm,.imm,.imm,.take true],o_Z59,[(false,1)],[.deep],[]⟩
abbrev o_Z169:Ty:=(.cons yI .nil)
def sg_Z169:Sig:=⟨[(false,1),(false,1),(false,1)],[],o_Z169,[(false,1)],[],[(.ptr yC)]⟩
abbrev o_Z19:Ty:=(.cons .bool .nil)
def sg_Z19:Sig:=⟨[(true,1)],[],o_Z19,[(false,1)],[],[]⟩
abbrev o_Z88:Ty:=(.cons yI .nil)
def sg_Z88:Sig:=⟨[(true,4),(false,1)],[],o_Z88,[(false,1)],[],[]⟩
abbrev o_Z72:Ty:=yC
def sg_Z72:Sig:=⟨[(true,4)],[],o_Z72,[(false,1)],[.deep],[]⟩
abbrev o_Z22:Ty:=(.cons .bool .nil)
def sg_Z22:Sig:=⟨[(false,1)],[],o_Z22,[(false,1)],[],[]⟩
abbrev o_Z94:Ty:=(.cons .bool .nil)
def sg_Z94:Sig:=⟨[(false,1),(false,1),(false,1)],[],o_Z94,[(false,1)],[],[]⟩
abbrev o_Z31:Ty:=(.cons .bool .nil)
def sg_Z31:Sig:=⟨[(true,1),(false,1)],[],o_Z31,[(false,1)],[],[]⟩
abbrev o_Z47:Ty:=(.cons yL .nil)
def sg_Z47:Sig:=⟨[(true,1),(false,1)],[],o_Z47,[(false,1)],[.deep],[]⟩
abbrev o_Z81:Ty:=yS
def sg_Z81:Sig:=⟨[(true,1),(false,1),(false,1),(false,1)],[],o_Z81,[(true,4)],[.deep,.imm,.deep,.deep],[]⟩
abbrev o_Z10:Ty:=yM
def sg_Z10:Sig:=⟨[(true,3),(false,1),(false,1)],[],o_Z10,[(true,4)],[.imm,.imm,.imm,.deep],[.nil,.nil,.nil,(.ptr (.cons yI .nil)),(.ptr (.cons yI .nil))]⟩
abbrev o_Z91:Ty:=yM
def sg_Z91:Sig:=⟨[(false,1),(false,1)],[],o_Z91,[(true,4)],[.imm,.imm,.imm,.deep],[]⟩
abbrev o_Z165:Ty:=(.cons .bool .nil)
def sg_Z165:Sig:=⟨[(false,1)],[],o_Z165,[(false,1)],[],[(.ptr yC)]⟩
abbrev o_Z134:Ty:=(.cons .bool .nil)
def sg_Z134:Sig:=⟨[(false,1)],[],o_Z134,[(false,1)],[],[]⟩
abbrev o_Z170:Ty:=(.cons yI .nil)
def sg_Z170:Sig:=⟨[(false,1),(false,1),(false,1)],[],o_Z170,[(false,1)],[],[(.ptr yC)]⟩
abbrev o_Z164:Ty:=(.cons yL .nil)
def sg_Z164:Sig:=⟨[(false,1),(false,1)],[],o_Z164,[(false,1)],[.deep],[(.ptr yC)]⟩
abbrev o_Z83:Ty:=(.cons yL .nil)
def sg_Z83:Sig:=⟨[(true,1),(false,1)],[],o_Z83,[(false,1)],[.deep],[]⟩
abbrev o_Z110:Ty:=(.cons .bool .nil)
def sg_Z110:Sig:=⟨[(false,1),(false,1)],[],o_Z110,[(false,1)],[],[]⟩
abbrev o_Z60:Ty:=(.cons yI .nil)
def sg_Z60:Sig:=⟨[(true,1),(false,1)],[],o_Z60,[(false,1)],[],[]⟩
abbrev o_Z127:Ty:=(.cons yI .nil)
def sg_Z127:Sig:=⟨[(false,1),(false,1)],[],o_Z127,[(false,1)],[],[]⟩
abbrev o_Z23:Ty:=(.cons .bool .nil)
def sg_Z23:Sig:=⟨[(true,4)],[],o_Z23,[(false,1)],[],[]⟩
abbrev o_Z95:Ty:=(.cons yI (.cons yI (.cons .bool .nil)))
def sg_Z95:Sig:=⟨[(true,4)],[],o_Z95,[(false,1),(false,1),(false,1)],[],[]⟩
abbrev o_Z96:Ty:=yM
def sg_Z96:Sig:=⟨[(false,1),(false,1),(false,1)],[],o_Z96,[(true,4)],[.imm,.imm,.imm,.deep],[]⟩
abbrev o_Z80:Ty:=yC
def sg_Z80:Sig:=⟨[(true,4)],[],o_Z80,[(false,1)],[.deep],[]⟩
abbrev o_Z58:Ty:=yC
def sg_Z58:Sig:=⟨[(false,1)],[],o_Z58,[(true,1)],[.deep],[]⟩
abbrev o_Z116:Ty:=(.cons .bool .nil)
def sg_Z116:Sig:=⟨[(false,1),(false,1)],[],o_Z116,[(false,1)],[],[]⟩
abbrev o_Z167:Ty:=(.cons .bool .nil)
def sg_Z167:Sig:=⟨[(false,1)],[],o_Z167,[(false,1)],[],[]⟩
abbrev o_Z163:Ty:=(.cons yI .nil)
def sg_Z163:Sig:=⟨[(false,1),(false,1)],[],o_Z163,[(false,1)],[],[(.ptr yC)]⟩
abbrev o_Z171:Ty:=yM
def sg_Z171:Sig:=⟨[(false,1),(false,1),(false,1)],[],o_Z171,[(true,4)],[.imm,.imm,.imm,.deep],[(.ptr yC)]⟩
abbrev o_Z154:Ty:=yM
def sg_Z154:Sig:=⟨[(false,1),(false,1)],[],o_Z154,[(true,4)],[.imm,.imm,.imm,.deep],[(.ptr yM),(.ptr yM)]⟩
abbrev o_Z70:Ty:=(.cons .bool .nil)
def sg_Z70:Sig:=⟨[(false,1)],[],o_Z70,[(false,1)],[],[]⟩
abbrev o_Z86:Ty:=(.cons yL (.cons .bool .nil))
def sg_Z86:Sig:=⟨[(true,4),(false,1)],[],o_Z86,[(false,1),(false,1)],[.deep,.imm],[]⟩
abbrev o_Z107:Ty:=(.cons yL .nil)
def sg_Z107:Sig:=⟨[(false,1)],[],o_Z107,[(false,1)],[.deep],[]⟩
abbrev o_Z141:Ty:=(.cons yI (.cons (.ptr yR) .nil))
def sg_Z141:Sig:=⟨[(false,1),(false,1)],[.iob,.imm],o_Z141,[(false,1)],[],[(.ptr yR)]⟩
abbrev o_Z85:Ty:=(.cons yI .nil)
def sg_Z85:Sig:=⟨[(false,1)],[],o_Z85,[(false,1)],[],[]⟩
abbrev o_Z176:Ty:=(.cons yK (.cons (.ptr yR) .nil))
def sg_Z176:Sig:=⟨[(false,1)],[.iob],o_Z176,[(true,1)],[],[(.ptr yR)]⟩
abbrev o_Z174:Ty:=yS
def sg_Z174:Sig:=⟨[(false,1),(false,1),(false,1)],[],o_Z174,[(true,4)],[.deep,.imm,.deep,.deep],[(.ptr yC)]⟩
abbrev o_Z173:Ty:=(.cons yK (.cons yI (.cons yL (.cons yN (.cons (.ptr yR) .nil)))))
def sg_Z173:Sig:=⟨[(false,1),(false,1),(false,1),(false,1)],[.iob,.imm,.imm,.imm],o_Z173,[(true,4)],[.deep,.imm,.deep,.deep],[(.ptr yR),(.ptr yC)]⟩
abbrev o_Z180:Ty:=yS
def sg_Z180:Sig:=⟨[(false,1),(false,1),(false,1)],[],o_Z180,[(true,4)],[.deep,.imm,.deep,.deep],[(.ptr yC)]⟩
abbrev o_Z168:Ty:=yC
def sg_Z168:Sig:=⟨[(false,1),(false,1)],[],o_Z168,[(true,1)],[.deep],[(.ptr yC)]⟩
abbrev o_Z147:Ty:=(.cons yI (.cons yI (.cons yI (.cons yL (.cons (.ptr yR) .nil)))))
def sg_Z147:Sig:=⟨[(false,1),(false,1),(false,1),(false,1)],[.iob,.imm,.imm,.imm],o_Z147,[(true,4)],[.imm,.imm,.imm,.deep],[(.ptr yR)]⟩
abbrev o_Z64:Ty:=(.cons .bool .nil)
def sg_Z64:Sig:=⟨[(false,1)],[],o_Z64,[(false,1)],[],[]⟩
abbrev o_Z183:Ty:=(.cons .bool .nil)
def sg_Z183:Sig:=⟨[(false,1),(false,1)],[],o_Z183,[(false,1)],[],[(.ptr yC)]⟩
abbrev o_Z175:Ty:=(.cons yI .nil)
def sg_Z175:Sig:=⟨[(false,1)],[],o_Z175,[(false,1)],[],[(.ptr yC)]⟩
abbrev o_Z179:Ty:=(.cons .bool .nil)
def sg_Z179:Sig:=⟨[(false,1),(false,1),(false,1),(false,1)],[],o_Z179,[(false,1)],[],[(.ptr yS),.nil,.nil,(.ptr yM)]⟩
abbrev o_Z182:Ty:=(.cons yI .nil)
def sg_Z182:Sig:=⟨[(false,1),(false,1),(false,1)],[],o_Z182,[(false,1)],[],[(.ptr yC)]⟩
abbrev o_Z136:Ty:=(.cons .bool .nil)
def sg_Z136:Sig:=⟨[(false,1),(false,1),(false,1)],[],o_Z136,[(false,1)],[],[]⟩
abbrev o_Z142:Ty:=(.cons yI (.cons (.ptr yR) .nil))
def sg_Z142:Sig:=⟨[(false,1)],[.iob],o_Z142,[(false,1)],[],[(.ptr yR)]⟩
abbrev o_Z68:Ty:=(.cons .bool .nil)
def sg_Z68:Sig:=⟨[(false,1),(false,1),(false,1)],[],o_Z68,[(false,1)],[],[]⟩
abbrev o_Z89:Ty:=yM
def sg_Z89:Sig:=⟨[(true,4)],[],o_Z89,[(true,4)],[.imm,.imm,.imm,.deep],[]⟩
abbrev o_Z87:Ty:=(.cons yI (.cons yI yC))
def sg_Z87:Sig:=⟨[(false,1),(false,1),(false,1)],[],o_Z87,[(true,3)],[.imm,.imm,.deep],[]⟩
abbrev o_Z37:Ty:=yC
def sg_Z37:Sig:=⟨[(true,4)],[],o_Z37,[(false,1)],[.deep],[]⟩
abbrev o_Z146:Ty:=(.cons .bool .nil)
def sg_Z146:Sig:=⟨[(false,1),(false,1),(false,1)],[],o_Z146,[(false,1)],[],[]⟩
abbrev o_Z156:Ty:=yM
def sg_Z156:Sig:=⟨[(false,1),(false,1),(false,1)],[],o_Z156,[(true,4)],[.imm,.imm,.imm,.deep],[]⟩
abbrev o_Z162:Ty:=(.cons yL .nil)
def sg_Z162:Sig:=⟨[(false,1),(false,1)],[],o_Z162,[(false,1)],[.deep],[(.ptr yC)]⟩
abbrev o_Z172:Ty:=(.cons yI .nil)
def sg_Z172:Sig:=⟨[(false,1),(false,1)],[],o_Z172,[(false,1)],[],[]⟩
abbrev o_Z44:Ty:=(.cons yI .nil)
def sg_Z44:Sig:=⟨[(false,1),(false,1),(false,1)],[],o_Z44,[(false,1)],[],[]⟩
abbrev o_Z15:Ty:=(.cons yL .nil)
def sg_Z15:Sig:=⟨[(true,4),(false,1)],[],o_Z15,[(false,1)],[],[]⟩
abbrev o_Z48:Ty:=(.cons yL .nil)
def sg_Z48:Sig:=⟨[(true,1),(false,1)],[],o_Z48,[(false,1)],[.deep],[]⟩
abbrev o_Z43:Ty:=yM
def sg_Z43:Sig:=⟨[(true,4),(false,1),(false,1)],[],o_Z43,[(true,4)],[],[]⟩
abbrev o_Z55:Ty:=(.cons yI .nil)
def sg_Z55:Sig:=⟨[(true,4),(false,1)],[],o_Z55,[(false,1)],[],[]⟩
abbrev o_Z14:Ty:=(.cons yI .nil)
def sg_Z14:Sig:=⟨[(true,4),(false,1),(false,1)],[],o_Z14,[(false,1)],[],[]⟩
abbrev o_Z27:Ty:=(.cons yI .nil)
def sg_Z27:Sig:=⟨[(false,1),(false,1)],[],o_Z27,[(false,1)],[],[]⟩
abbrev o_Z143:Ty:=(.cons .bool (.cons (.ptr yR) .nil))
def sg_Z143:Sig:=⟨[(false,1),(false,1)],[.iob,.imm],o_Z143,[(false,1)],[],[(.ptr yR)]⟩
abbrev o_Z137:Ty:=(.cons yL .nil)
def sg_Z137:Sig:=⟨[(false,1)],[],o_Z137,[(false,1)],[.deep],[]⟩
abbrev o_Z39:Ty:=(.cons .bool .nil)
def sg_Z39:Sig:=⟨[(true,3),(false,1)],[],o_Z39,[(false,1)],[],[]⟩
abbrev o_Z41:Ty:=yC
def sg_Z41:Sig:=⟨[(false,1)],[],o_Z41,[(false,1)],[.deep],[]⟩
abbrev o_Z24:Ty:=(.cons .bool .nil)
def sg_Z24:Sig:=⟨[(false,1)],[],o_Z24,[(false,1)],[],[]⟩
abbrev o_Z38:Ty:=(.cons yI .nil)
def sg_Z38:Sig:=⟨[(false,1),(false,1)],[],o_Z38,[(false,1)],[],[]⟩
abbrev o_Z108:Ty:=(.cons .bool .nil)
def sg_Z108:Sig:=⟨[(false,1),(false,1)],[],o_Z108,[(false,1)],[],[]⟩
abbrev o_Z49:Ty:=yC
def sg_Z49:Sig:=⟨[(false,1)],[],o_Z49,[(false,1)],[.deep],[]⟩
abbrev o_Z20:Ty:=(.cons .bool .nil)
def sg_Z20:Sig:=⟨[(false,1),(false,1),(false,1)],[],o_Z20,[(false,1)],[],[.nil,(.ptr yC),(.ptr (.cons yI .nil))]⟩
abbrev o_Z45:Ty:=(.cons yL (.cons yI yC))
def sg_Z45:Sig:=⟨[(false,1),(false,1),(false,1)],[.io false,.imm,.imm],o_Z45,[(false,1),(false,1)],[.deep,.imm],[]⟩
abbrev o_Z115:Ty:=(.cons .bool .nil)
def sg_Z115:Sig:=⟨[(false,1),(false,1)],[],o_Z115,[(false,1)],[],[]⟩
abbrev o_Z79:Ty:=(.cons yI .nil)
def sg_Z79:Sig:=⟨[(false,1),(false,1)],[],o_Z79,[(false,1)],[],[]⟩
abbrev o_Z32:Ty:=(.cons .bool .nil)
def sg_Z32:Sig:=⟨[(false,1)],[],o_Z32,[(false,1)],[],[]⟩
abbrev o_Z104:Ty:=(.cons yL .nil)
def sg_Z104:Sig:=⟨[(false,1)],[],o_Z104,[(false,1)],[.deep],[]⟩
abbrev o_Z33:Ty:=(.cons (.sl (.st (.cons yI (.cons yI (.cons yI .nil))))) .nil)
def sg_Z33:Sig:=⟨[(true,1)],[],o_Z33,[(false,1)],[.deep],[]⟩
abbrev o_Z42:Ty:=yM
def sg_Z42:Sig:=⟨[(true,4)],[],o_Z42,[(true,4)],[.imm,.imm,.imm,.deep],[]⟩
abbrev o_Z50:Ty:=yM
def sg_Z50:Sig:=⟨[(false,1),(false,1),(false,1),(false,1)],[],o_Z50,[(true,4)],[.imm,.imm,.imm,.deep],[]⟩
abbrev o_Z92:Ty:=(.cons yI .nil)
def sg_Z92:Sig:=⟨[(false,1),(false,1)],[],o_Z92,[(false,1)],[],[]⟩
abbrev o_Z157:Ty:=(.cons .bool .nil)
def sg_Z157:Sig:=⟨[(false,1),(false,1)],[],o_Z157,[(false,1)],[],[]⟩
abbrev o_Z161:Ty:=(.cons yL .nil)
def sg_Z161:Sig:=⟨[(false,1),(false,1)],[],o_Z161,[(false,1)],[.deep],[]⟩
abbrev o_Z145:Ty:=(.cons .bool .nil)
def sg_Z145:Sig:=⟨[(false,1)],[],o_Z145,[(false,1)],[],[]⟩
abbrev o_Z152:Ty:=(.cons yI .nil)
def sg_Z152:Sig:=⟨[(false,1)],[],o_Z152,[(false,1)],[],[(.ptr yM)]⟩
abbrev o_Z158:Ty:=yC
def sg_Z158:Sig:=⟨[(false,1)],[],o_Z158,[(true,1)],[],[]⟩
abbrev o_Z160:Ty:=(.cons yL (.cons (.ptr yR) .nil))
def sg_Z160:Sig:=⟨[(false,1),(false,1),(false,1)],[.iob,.imm,.imm],o_Z160,[(false,1)],[],[(.ptr yR)]⟩
abbrev o_Z121:Ty:=(.cons yI .nil)
def sg_Z121:Sig:=⟨[(false,1),(false,1)],[],o_Z121,[(false,1)],[],[]⟩
abbrev o_Z102:Ty:=(.cons yI (.cons .bool .nil))
def sg_Z102:Sig:=⟨[(false,1),(false,1),(false,1)],[],o_Z102,[(false,1),(false,1)],[],[]⟩
abbrev o_Z62:Ty:=(.cons .bool .nil)
def sg_Z62:Sig:=⟨[(true,4),(false,1),(false,1),(false,1)],[],o_Z62,[(false,1)],[],[]⟩
abbrev o_Z77:Ty:=yM
def sg_Z77:Sig:=⟨[(true,4),(true,4)],[],o_Z77,[(true,4)],[.imm,.imm,.imm,.deep],[]⟩
abbrev o_Z17:Ty:=(.cons .bool .nil)
def sg_Z17:Sig:=⟨[(true,4),(true,4)],[],o_Z17,[(false,1)],[],[]⟩
abbrev o_Z97:Ty:=(.cons yI .nil)
def sg_Z97:Sig:=⟨[(false,1),(false,1)],[],o_Z97,[(false,1)],[],[]⟩
abbrev o_Z140:Ty:=(.cons .bool .nil)
def sg_Z140:Sig:=⟨[(false,1),(false,1)],[],o_Z140,[(false,1)],[],[]⟩
abbrev o_Z128:Ty:=yC
def sg_Z128:Sig:=⟨[(false,1),(false,1)],[.io true,.imm],o_Z128,[],[],[]⟩
abbrev o_Z105:Ty:=yC
def sg_Z105:Sig:=⟨[(false,1),(false,1)],[.take true,.imm],o_Z105,[(false,1)],[.deep],[]⟩
abbrev o_Z139:Ty:=(.cons .bool .nil)
def sg_Z139:Sig:=⟨[(false,1),(false,1),(false,1)],[],o_Z139,[(false,1)],[],[]⟩
abbrev o_Z151:Ty:=(.cons .bool .nil)
def sg_Z151:Sig:=⟨[(false,1)],[],o_Z151,[(false,1)],[],[(.ptr yM)]⟩
abbrev o_Z71:Ty:=(.cons .bool .nil)
def sg_Z71:Sig:=⟨[(false,1)],[],o_Z71,[(false,1)],[],[]⟩
abbrev o_Z117:Ty:=(.cons yL .nil)
def sg_Z117:Sig:=⟨[(false,1),(false,1)],[.take true,.imm],o_Z117,[(false,1)],[.deep],[]⟩
abbrev o_Z155:Ty:=yM
def sg_Z155:Sig:=⟨[(false,1),(false,1)],[],o_Z155,[(true,4)],[.imm,.imm,.imm,.deep],[]⟩
abbrev o_Z178:Ty:=(.cons yI (.cons yI (.cons yI (.cons yL (.cons (.ptr yR) .nil)))))
def sg_Z178:Sig:=⟨[(false,1),(false,1),(false,1)],[.iob,.imm,.imm],o_Z178,[(true,4)],[.imm,.imm,.imm,.deep],[(.ptr yR)]⟩
abbrev o_Z130:Ty:=(.cons yI (.cons yI (.cons yI (.cons yL (.cons yI .nil)))))
def sg_Z130:Sig:=⟨[(true,4)],[],o_Z130,[(true,4),(false,1)],[.imm,.imm,.imm,.deep,.imm],[]⟩
abbrev o_Z29:Ty:=(.cons .bool .nil)
def sg_Z29:Sig:=⟨[(false,1),(false,1)],[],o_Z29,[(false,1)],[],[]⟩
abbrev o_Z90:Ty:=(.cons yI .nil)
def sg_Z90:Sig:=⟨[(false,1),(false,1),(false,1)],[],o_Z90,[(false,1)],[],[.nil,.nil,(.ptr yM)]⟩
abbrev o_Z56:Ty:=(.cons yI .nil)
def sg_Z56:Sig:=⟨[(true,4),(false,1)],[],o_Z56,[(false,1)],[],[]⟩
abbrev o_Z40:Ty:=(.cons yL (.cons .bool .nil))
def sg_Z40:Sig:=⟨[(true,3),(false,1)],[],o_Z40,[(false,1),(false,1)],[.deep,.imm],[]⟩
abbrev o_Z153:Ty:=(.cons yI (.cons yI (.cons yI (.cons yL (.cons yL (.cons yI .nil))))))
def sg_Z153:Sig:=⟨[(false,1)],[],o_Z153,[(true,4),(false,1),(false,1)],[.imm,.imm,.imm,.deep,.deep,.imm],[(.ptr yM)]⟩
abbrev o_Z150:Ty:=(.cons yI .nil)
def sg_Z150:Sig:=⟨[(false,1),(false,1)],[],o_Z150,[(false,1)],[],[]⟩
abbrev o_Z66:Ty:=(.cons .bool .nil)
def sg_Z66:Sig:=⟨[(false,1)],[],o_Z66,[(false,1)],[],[]⟩
abbrev o_Z25:Ty:=(.cons .bool .nil)
def sg_Z25:Sig:=⟨[(false,1)],[],o_Z25,[(false,1)],[],[]⟩
abbrev o_Z69:Ty:=(.cons .bool .nil)
def sg_Z69:Sig:=⟨[(false,1)],[],o_Z69,[(false,1)],[],[]⟩
abbrev o_Z2:Ty:=(.cons yI .nil)
def sg_Z2:Sig:=⟨[(false,1)],[],o_Z2,[(false,1)],[],[]⟩
abbrev o_Z0:Ty:=(.cons yI .nil)
def sg_Z0:Sig:=⟨[(false,1),(false,1)],[],o_Z0,[(false,1)],[],[]⟩
abbrev o_Z106:Ty:=(.cons yI .nil)
def sg_Z106:Sig:=⟨[(false,1),(false,1)],[],o_Z106,[(false,1)],[],[]⟩
abbrev o_Z118:Ty:=(.cons yI .nil)
def sg_Z118:Sig:=⟨[(false,1),(false,1)],[],o_Z118,[(false,1)],[],[]⟩
abbrev o_Z46:Ty:=(.cons .bool .nil)
def sg_Z46:Sig:=⟨[(false,1),(false,1)],[],o_Z46,[(false,1)],[],[.nil,(.ptr (.cons yI .nil))]⟩
abbrev o_Z61:Ty:=(.cons yI .nil)
def sg_Z61:Sig:=⟨[(false,1),(false,1)],[],o_Z61,[(false,1)],[],[]⟩
abbrev o_Z166:Ty:=(.cons (.ptr yC) .nil)
def sg_Z166:Sig:=⟨[(false,1),(false,1)],[.iob,.imm],o_Z166,[],[],[(.ptr yC)]⟩
abbrev o_Z138:Ty:=(.cons yL .nil)
def sg_Z138:Sig:=⟨[(false,1),(false,1)],[],o_Z138,[(false,1)],[.deep],[]⟩
abbrev o_Z21:Ty:=(.cons .bool .nil)
def sg_Z21:Sig:=⟨[(true,4)],[],o_Z21,[(false,1)],[],[]⟩
abbrev o_Z78:Ty:=(.cons yI .nil)
def sg_Z78:Sig:=⟨[(false,1),(false,1),(false,1),(false,1)],[],o_Z78,[(false,1)],[],[.nil,.nil,(.ptr yM),(.ptr yC)]⟩
abbrev o_Z149:Ty:=yM
def sg_Z149:Sig:=⟨[(false,1),(false,1)],[],o_Z149,[(true,4)],[.imm,.imm,.imm,.deep],[(.ptr yM),(.ptr yM)]⟩
abbrev o_Z30:Ty:=(.cons .bool .nil)
def sg_Z30:Sig:=⟨[(false,1),(false,1)],[],o_Z30,[(false,1)],[],[.nil,(.ptr (.cons yI .nil))]⟩
abbrev o_Z65:Ty:=(.cons .bool .nil)
def sg_Z65:Sig:=⟨[(false,1),(false,1)],[],o_Z65,[(false,1)],[],[]⟩
abbrev o_Z73:Ty:=(.cons yL .nil)
def sg_Z73:Sig:=⟨[(true,3)],[],o_Z73,[(false,1)],[.deep],[]⟩
abbrev o_Z148:Ty:=(.cons yI .nil)
def sg_Z148:Sig:=⟨[(false,1),(false,1)],[],o_Z148,[(false,1)],[],[]⟩
abbrev o_Z3:Ty:=(.cons .bool .nil)
def sg_Z3:Sig:=⟨[(false,1)],[],o_Z3,[(false,1)],[],[]⟩
abbrev o_Z1:Ty:=(.cons yI .nil)
def sg_Z1:Sig:=⟨[(false,1),(false,1)],[],o_Z1,[(false,1)],[],[]⟩
abbrev o_Z75:Ty:=(.cons yI .nil)
def sg_Z75:Sig:=⟨[(false,1),(false,1),(false,1)],[],o_Z75,[(false,1)],[],[]⟩
abbrev o_Z67:Ty:=(.cons .bool .nil)
def sg_Z67:Sig:=⟨[(false,1)],[],o_Z67,[(false,1)],[],[]⟩
abbrev o_Z74:Ty:=(.cons .bool .nil)
def sg_Z74:Sig:=⟨[(false,1)],[],o_Z74,[(false,1)],[],[]⟩
abbrev o_Z4:Ty:=(.cons .bool .nil)
def sg_Z4:Sig:=⟨[(false,1)],[],o_Z4,[(false,1)],[],[]⟩
def pol_Z98:Pol:=⟨200,[],[(15,⟨[5,6,18,20],[5],[],[],[],[],[]⟩)],[],[(1000147,⟨[5,6,18,147],[5],[],[],[],[],[]⟩)],[]⟩
def pol_Z100:Pol:=⟨15,[],[],[],[],[]⟩
def pol_Z132:Pol:=⟨13,[(5,[some 9]),(7,[some 10,none,some 11,some 12])],[],[],[],[]⟩
def pol_Z99:Pol:=⟨25,[],[],[],[(1000014,⟨[0,1,2,14],[],[],[],[],[],[]⟩)],[]⟩
def pol_Z7:Pol:=⟨22,[(15,[some 21])],[],[],[],[]⟩
def pol_Z133:Pol:=⟨21,[],[],[],[],[]⟩
def pol_Z131:Pol:=⟨29,[(11,[some 28])],[(4,⟨[1,2,7,8,9],[12,28],[],[],[],[],[]⟩)],[],[],[]⟩
def pol_Z11:Pol:=⟨24,[],[],[],[],[]⟩
def pol_Z101:Pol:=⟨28,[],[(4,⟨[0,1,5],[],[],[],[],[],[]⟩)],[],[],[]⟩
def pol_Z16:Pol:=⟨35,[(22,[some 34])],[],[],[],[]⟩
def pol_Z5:Pol:=⟨28,[(20,[some 27])],[],[],[],[]⟩
def pol_Z8:Pol:=⟨25,[],[(5,⟨[1,4,9],[1,18],[(4,18,yI,true)],[],[],[],[]⟩)],[],[],[]⟩
def pol_Z18:Pol:=⟨22,[],[],[],[],[]⟩
def pol_Z6:Pol:=⟨23,[(16,[some 22])],[],[],[],[]⟩
def pol_Z12:Pol:=⟨24,[],[],[],[],[]⟩
def pol_Z9:Pol:=⟨44,[(37,[some 41,none,some 42,some 43])],[],[],[(1000008,⟨[3,4,5,6,8],[3,4,5,6],[],[],[],[],[]⟩)],[]⟩
def pol_Z129:Pol:=⟨33,[],[(5,⟨[1,2,6,7],[2,15],[],[],[],[],[]⟩)],[],[(1000014,⟨[1,2,14],[2],[],[],[],[],[]⟩)],[]⟩
def pol_Z13:Pol:=⟨21,[],[],[],[],[]⟩
def pol_Z135:Pol:=⟨7,[],[],[],[],[]⟩
def pol_Z177:Pol:=⟨113,[(24,[some 100,none,some 101,some 102]),(33,[some 103,none,some 104,some 105]),(54,[some 106,none,some 107,some 108]),(71,[some 111,none,some 112,some 109]),(96,[none,none,none,some 110])],[(17,⟨[0,2,3,4,7,8],[2,3,56,99],[],[],[],[],[]⟩),(22,⟨[0,2,4,9,10],[2,9,99,109,111,112],[],[],[],[109],[]⟩)],[],[(13,⟨[2,3,4,6],[2,3,39,99],[],[],[],[],[]⟩)],[]⟩
def pol_Z57:Pol:=⟨18,[],[],[],[],[]⟩
def pol_Z36:Pol:=⟨20,[(11,[some 18]),(12,[some 19])],[],[],[],[]⟩
def pol_Z181:Pol:=⟨93,[],[(4,⟨[0,3],[],[],[],[],[],[]⟩),(7,⟨[0,3,4],[],[],[],[],[],[]⟩)],[],[(1000040,⟨[0,40],[],[],[],[],[],[]⟩),(1000073,⟨[0,3,4,73],[],[],[],[],[],[]⟩)],[]⟩
def pol_Z159:Pol:=⟨6,[],[],[],[],[]⟩
def pol_Z184:Pol:=⟨32,[],[(4,⟨[1,7,8,9],[],[],[],[],[],[]⟩)],[],[],[]⟩
def pol_Z144:Pol:=⟨22,[],[],[],[],[]⟩
def pol_Z93:Pol:=⟨28,[],[],[],[],[]⟩
def pol_Z63:Pol:=⟨19,[],[],[],[],[]⟩
def pol_Z34:Pol:=⟨23,[(16,[none,none,some 22])],[],[],[],[]⟩
def pol_Z76:Pol:=⟨23,[(13,[some 22])],[],[],[],[]⟩
def pol_Z28:Pol:=⟨29,[],[(3,⟨[1,2,5,8,9],[2,21],[(5,21,yI,true)],[],[],[],[]⟩)],[],[],[]⟩
def pol_Z35:Pol:=⟨103,[(24,[none,none,none,some 102])],[(3,⟨[1,2,4,5,29,30,31],[2,4,5,102],[],[],[],[],[]⟩),(7,⟨[1,2,4,5,7,29,30,31,40,41,42],[2,4,5,102],[],[],[],[],[]⟩),(12,⟨[1,2,4,5,7,8,10,11,12,29,30,31,40,41,42,58,59],[2,4,5,10,102],[],[],[],[],[]⟩),(15,⟨[1,2,4,5,7,8,10,11,12,13,29,30,31,40,41,42,58,59,63,64],[2,4,5,10,102],[],[],[],[],[]⟩)],[],[(2,⟨[1,2,4,5],[2,4,5,102],[],[],[],[],[]⟩),(22,⟨[4,5],[4,5,102],[],[],[],[],[]⟩)],[]⟩
def pol_Z26:Pol:=⟨38,[],[(3,⟨[0,1,2,3,9,12,13],[31],[(9,31,yI,true)],[],[],[],[]⟩)],[],[],[]⟩
def pol_Z84:Pol:=⟨6,[],[],[],[],[]⟩
def pol_Z169:Pol:=⟨42,[],[],[],[(1000014,⟨[0,1,14],[],[],[],[],[],[]⟩),(1000038,⟨[38],[],[],[],[],[],[]⟩)],[]⟩
def pol_Z19:Pol:=⟨41,[],[(2,⟨[1,6,7,8],[1],[],[],[1],[],[]⟩)],[],[(1000030,⟨[1,3,4,6,7,8,30],[1,3],[],[],[],[],[]⟩)],[]⟩
def pol_Z88:Pol:=⟨31,[],[(3,⟨[2,5,11,12,13],[2],[],[],[],[],[]⟩)],[],[],[]⟩
def pol_Z72:Pol:=⟨69,[(12,[some 68])],[(5,⟨[1,3,4,6,23,24],[1,61,68],[(6,61,yL,true)],[],[],[],[]⟩),(11,⟨[1,3,4,6,7,8,23,24,36,37,38],[1,32,61,68],[],[],[],[],[]⟩)],[],[],[]⟩
def pol_Z22:Pol:=⟨19,[],[(4,⟨[0,3],[],[],[],[],[],[]⟩)],[],[],[]⟩
def pol_Z94:Pol:=⟨18,[],[],[],[],[]⟩
def pol_Z31:Pol:=⟨28,[],[(4,⟨[1,2,16],[2],[],[],[],[],[]⟩)],[],[(1000015,⟨[1,2,15],[2],[],[],[],[],[]⟩)],[]⟩
def pol_Z47:Pol:=⟨19,[],[(3,⟨[1,5,8,9],[14],[(5,14,yI,true)],[],[],[],[]⟩)],[],[],[]⟩
def pol_Z81:Pol:=⟨44,[(14,[some 42]),(17,[some 43]),(31,[none,none,none,some 41])],[(3,⟨[3,8,9,20,21,22],[8,9,33,42,43],[],[(9,3,33,(.st yM),true)],[],[],[]⟩)],[],[],[]⟩
def pol_Z10:Pol:=⟨14,[(7,[none,none,none,some 13])],[],[],[],[]⟩
def pol_Z91:Pol:=⟨12,[(8,[none,none,none,some 11])],[],[],[],[]⟩
def pol_Z165:Pol:=⟨66,[],[(4,⟨[0,3],[],[],[],[],[],[]⟩),(10,⟨[0,3,4,5],[],[],[],[],[],[]⟩)],[],[(1000047,⟨[0,3,4,47],[],[],[],[],[],[]⟩),(1000056,⟨[0,3,4,5,56],[],[],[],[],[],[]⟩)],[]⟩
def pol_Z134:Pol:=⟨6,[],[],[],[],[]⟩
def pol_Z170:Pol:=⟨27,[],[],[],[],[]⟩
def pol_Z164:Pol:=⟨35,[],[(3,⟨[0,1,5,6],[7],[],[],[],[],[]⟩)],[],[],[]⟩
def pol_Z83:Pol:=⟨29,[],[(3,⟨[1,5,9,10,11],[24],[(5,24,yI,true)],[],[],[],[]⟩)],[],[],[]⟩
def pol_Z110:Pol:=⟨11,[],[],[],[],[]⟩
def pol_Z60:Pol:=⟨19,[],[],[],[],[]⟩
def pol_Z127:Pol:=⟨21,[],[(2,⟨[0,1,7,8],[],[],[],[],[],[]⟩)],[],[],[]⟩
def pol_Z23:Pol:=⟨73,[],[(5,⟨[1,3,27,28,29],[1],[],[],[],[],[]⟩)],[],[(1000023,⟨[1,23],[1],[],[],[],[],[]⟩),(1000061,⟨[1,3,27,28,29,61],[1],[],[],[],[],[]⟩)],[]⟩
def pol_Z95:Pol:=⟨90,[],[(2,⟨[1,15,16,17],[1],[],[],[],[],[]⟩),(8,⟨[1,6,7,8,15,16,17,31,32],[1],[],[],[],[],[]⟩),(11,⟨[1,6,7,8,9,10,15,16,17,31,32],[1],[],[],[],[],[]⟩)],[],[(14,⟨[1,6,7,8,9,10,11,15,16,17,31,32],[1,11],[],[],[],[],[]⟩),(15,⟨[1,6,7,8,9,10,11,12,15,16,17,31,32],[1,11,12],[],[],[],[],[]⟩)],[]⟩
def pol_Z96:Pol:=⟨15,[(10,[none,none,none,some 14])],[],[],[],[]⟩
def pol_Z80:Pol:=⟨24,[(14,[some 23])],[(3,⟨[1,3,6,7],[1,16],[(3,16,yL,true)],[],[],[],[]⟩)],[],[],[]⟩
def pol_Z58:Pol:=⟨14,[(5,[some 12]),(9,[some 13])],[],[],[],[]⟩
def pol_Z116:Pol:=⟨28,[],[(4,⟨[0,1,12,13],[],[],[],[],[],[]⟩)],[],[],[]⟩
def pol_Z167:Pol:=⟨11,[],[],[],[],[]⟩
def pol_Z163:Pol:=⟨27,[],[(2,⟨[0,1,5],[],[],[],[],[],[]⟩)],[],[],[]⟩
def pol_Z171:Pol:=⟨72,[(25,[none,none,none,some 71])],[(5,⟨[0,1,2,6,7,8,9,10],[6,9,71],[],[],[],[],[]⟩),(9,⟨[0,1,2,6,7,8,9,10,11,12],[6,9,71],[],[],[],[],[]⟩)],[],[(1000033,⟨[0,1,2,6,7,8,9,10,33],[6,9,71],[],[],[],[],[]⟩)],[]⟩
def pol_Z154:Pol:=⟨99,[(22,[none,none,none,some 98])],[(3,⟨[0,1,4,5,6],[4,5,98],[],[],[],[],[]⟩),(6,⟨[0,1,4,5,6,7],[4,5,98],[],[],[],[],[]⟩),(10,⟨[0,1,4,5,6,7,8,9],[4,5,98],[],[],[],[],[]⟩)],[],[(2,⟨[0,1,4,5],[4,5,98],[],[],[],[],[]⟩)],[]⟩
def pol_Z70:Pol:=⟨7,[],[],[],[],[]⟩
def pol_Z86:Pol:=⟨78,[(14,[some 76]),(25,[some 77])],[(3,⟨[1,2,6,16,17],[2,76],[],[],[],[],[]⟩),(10,⟨[2,6,10,47,48,49],[2,46,76],[],[],[],[],[]⟩)],[],[],[]⟩
def pol_Z107:Pol:=⟨38,[(24,[some 37])],[(3,⟨[0,3,9,10,11],[],[],[],[],[],[]⟩),(11,⟨[6,25,26,27],[37],[],[],[],[],[]⟩)],[],[],[]⟩
def pol_Z141:Pol:=⟨14,[],[],[],[],[]⟩
def pol_Z85:Pol:=⟨6,[],[],[],[],[]⟩
def pol_Z176:Pol:=⟨52,[],[(12,⟨[0,2,3,4],[2,37,51],[],[],[],[37],[]⟩)],[],[],[]⟩
def pol_Z174:Pol:=⟨51,[(28,[some 49,none,some 50,some 47]),(41,[none,none,none,some 48])],[(3,⟨[0,1,2,6,7,8],[6,11],[],[],[],[],[]⟩),(8,⟨[1,2,6,9,10],[6,9,47,49,50],[],[],[],[],[]⟩)],[],[],[]⟩
def pol_Z173:Pol:=⟨88,[(20,[some 86,none,some 87,some 84]),(35,[none,none,none,some 83]),(76,[none,none,none,some 85])],[(4,⟨[0,1,2,3,8,9,10,11],[8,9,21,79,84,86,87],[],[],[],[],[]⟩),(8,⟨[1,8,9,10,12],[8,9,21,79,84,86,87],[],[],[],[21],[]⟩),(12,⟨[1,8,9,10,12,13,14],[8,9,21,79,84,86,87],[],[],[],[21],[]⟩)],[],[],[]⟩
def pol_Z180:Pol:=⟨61,[(12,[some 59]),(15,[some 60]),(50,[none,none,none,some 58])],[(3,⟨[0,1,2,6,7,8],[6,7,16,59,60],[],[],[],[],[]⟩),(7,⟨[0,1,2,6,7,8,9,10],[6,7,16,59,60],[],[],[],[],[]⟩)],[],[],[]⟩
def pol_Z168:Pol:=⟨46,[(38,[some 45])],[(3,⟨[0,1,4,5,6],[4,5,7],[],[],[],[],[]⟩)],[],[],[]⟩
def pol_Z147:Pol:=⟨67,[(15,[none,none,none,some 66])],[(3,⟨[0,1,2,3,8,9,10],[8,9,62,66],[],[],[],[],[]⟩),(9,⟨[1,2,3,8,9,11],[8,9,62,66],[],[],[],[],[]⟩)],[],[(12,⟨[8,9],[8,9,62,66],[],[],[],[],[]⟩),(1000038,⟨[1,2,3,8,9,38],[8,9,62,66],[],[],[],[],[]⟩)],[]⟩
def pol_Z64:Pol:=⟨6,[],[],[],[],[]⟩
def pol_Z183:Pol:=⟨25,[],[(4,⟨[0,1,5],[],[],[],[],[],[]⟩)],[],[],[]⟩
def pol_Z175:Pol:=⟨11,[],[],[],[],[]⟩
def pol_Z179:Pol:=⟨63,[],[],[],[],[]⟩
def pol_Z182:Pol:=⟨39,[],[(3,⟨[0,1,2,7,8],[],[],[],[],[],[]⟩)],[],[],[]⟩
def pol_Z136:Pol:=⟨18,[],[],[],[],[]⟩
def pol_Z142:Pol:=⟨63,[],[],[],[(4,⟨[0,3],[62],[],[],[],[],[]⟩)],[]⟩
def pol_Z68:Pol:=⟨19,[],[],[],[],[]⟩
def pol_Z89:Pol:=⟨16,[(10,[none,none,none,some 15])],[],[],[],[]⟩
def pol_Z87:Pol:=⟨32,[(11,[some 30]),(25,[some 31])],[],[],[],[]⟩
def pol_Z37:Pol:=⟨11,[(5,[some 10])],[],[],[],[]⟩
def pol_Z146:Pol:=⟨29,[],[(2,⟨[0,1,2,7],[],[],[],[],[],[]⟩)],[],[],[]⟩
def pol_Z156:Pol:=⟨18,[],[],[],[],[]⟩
def pol_Z162:Pol:=⟨38,[],[(4,⟨[0,5,6,7],[15],[],[],[],[],[]⟩)],[],[(1000024,⟨[0,5,6,7,24],[15],[],[],[],[],[]⟩)],[]⟩
def pol_Z172:Pol:=⟨14,[],[],[],[],[]⟩
def pol_Z44:Pol:=⟨32,[],[(3,⟨[0,1,2,7,10,11],[],[],[],[],[],[]⟩)],[],[],[]⟩
def pol_Z15:Pol:=⟨22,[],[],[],[],[]⟩
def pol_Z48:Pol:=⟨29,[],[(3,⟨[2,5,13,14,15],[2,24],[(5,24,yI,true)],[],[],[],[]⟩)],[],[],[]⟩
def pol_Z43:Pol:=⟨22,[],[],[],[],[]⟩
def pol_Z55:Pol:=⟨41,[],[(3,⟨[1,2,5,18,19,20],[2],[],[],[],[],[]⟩)],[],[],[]⟩
def pol_Z14:Pol:=⟨23,[],[],[],[],[]⟩
def pol_Z27:Pol:=⟨12,[],[],[],[],[]⟩
def pol_Z143:Pol:=⟨11,[],[],[],[],[]⟩
def pol_Z137:Pol:=⟨7,[],[],[],[],[]⟩
def pol_Z39:Pol:=⟨18,[],[],[],[],[]⟩
def pol_Z41:Pol:=⟨21,[(14,[some 20])],[(3,⟨[3,6,7,8],[16],[(3,16,yL,true)],[],[],[],[]⟩)],[],[],[]⟩
def pol_Z24:Pol:=⟨21,[],[],[],[],[]⟩
def pol_Z38:Pol:=⟨17,[],[],[],[],[]⟩
def pol_Z108:Pol:=⟨11,[],[],[],[],[]⟩
def pol_Z49:Pol:=⟨29,[(22,[some 28])],[(3,⟨[0,3,6,7],[24],[(3,24,yL,true)],[],[],[],[]⟩)],[],[],[]⟩
def pol_Z20:Pol:=⟨16,[],[],[],[],[]⟩
def pol_Z45:Pol:=⟨125,[(77,[some 123]),(110,[some 124])],[(4,⟨[0,1,2,8,9,16,17],[116,120],[(8,116,yI,true)],[],[],[],[]⟩),(17,⟨[0,1,2,8,9,10,11,16,17,79,80,81],[10,116,120],[],[],[],[],[]⟩)],[],[(13,⟨[0,1,2,8,9,10,11,16,17],[10,116,120],[],[],[],[],[]⟩),(16,⟨[0,1,2,8,9,10,11,16,17],[10,116,120],[],[],[],[],[]⟩),(1000095,⟨[0,1,2,8,9,10,11,14,15,16,17,79,80,81,95],[10,116,120],[],[],[],[],[]⟩)],[]⟩
def pol_Z115:Pol:=⟨11,[],[],[],[],[]⟩
def pol_Z79:Pol:=⟨14,[],[],[],[],[]⟩
def pol_Z32:Pol:=⟨7,[],[],[],[],[]⟩
def pol_Z104:Pol:=⟨9,[],[],[],[(1000004,⟨[0,4],[],[],[],[],[],[]⟩)],[]⟩
def pol_Z33:Pol:=⟨33,[],[(3,⟨[1,3,9,10],[1,28],[(3,28,(.st (.cons yI (.cons yI (.cons yI .nil)))),true)],[],[],[],[]⟩),(6,⟨[1,3,4,9,10,15,16,17],[1,28],[(3,28,(.st (.cons yI (.cons yI (.cons yI .nil)))),true)],[],[],[],[]⟩)],[],[],[]⟩
def pol_Z42:Pol:=⟨13,[(5,[some 12])],[],[],[],[]⟩
def pol_Z50:Pol:=⟨40,[],[(3,⟨[2,3,8,9,16,17],[8,9,31],[],[(9,3,31,yI,true)],[],[],[]⟩),(6,⟨[2,3,8,9,10,16,17,20,21],[8,9,31],[],[(9,3,31,yI,true)],[],[],[]⟩)],[],[],[]⟩
def pol_Z92:Pol:=⟨10,[],[],[],[],[]⟩
def pol_Z157:Pol:=⟨42,[],[(4,⟨[0,1,5],[],[],[],[],[],[]⟩)],[],[],[]⟩
def pol_Z161:Pol:=⟨19,[(9,[some 18])],[],[],[],[]⟩
def pol_Z145:Pol:=⟨19,[],[(4,⟨[0,3],[],[],[],[],[],[]⟩)],[],[],[]⟩
def pol_Z152:Pol:=⟨15,[],[],[],[],[]⟩
def pol_Z158:Pol:=⟨20,[],[(3,⟨[0,2,3,4],[2,3],[],[],[],[],[(3,0)]⟩)],[],[],[]⟩
def pol_Z160:Pol:=⟨27,[],[(3,⟨[0,1,7,8],[24],[],[],[],[],[(1000007,0)]⟩)],[],[],[]⟩
def pol_Z121:Pol:=⟨21,[],[(2,⟨[0,1,7,8],[],[],[],[],[],[]⟩)],[],[],[]⟩
def pol_Z102:Pol:=⟨52,[],[(3,⟨[0,1,2,8,9,10],[],[],[],[],[],[]⟩)],[],[],[]⟩
def pol_Z62:Pol:=⟨36,[],[],[],[],[]⟩
def pol_Z77:Pol:=⟨25,[(15,[none,none,none,some 24])],[],[],[],[]⟩
def pol_Z17:Pol:=⟨39,[],[],[],[],[]⟩
def pol_Z97:Pol:=⟨7,[],[],[],[],[]⟩
def pol_Z140:Pol:=⟨28,[],[(4,⟨[0,1,5],[],[],[],[],[],[]⟩)],[],[],[]⟩
def pol_Z139:Pol:=⟨41,[],[(2,⟨[0,1,2,7],[],[],[],[],[],[]⟩)],[],[(1000037,⟨[0,1,2,7,37],[],[],[],[],[],[]⟩)],[]⟩
def pol_Z151:Pol:=⟨43,[],[],[],[],[]⟩
def pol_Z71:Pol:=⟨6,[],[],[],[],[]⟩
def pol_Z155:Pol:=⟨28,[(10,[none,none,none,some 27])],[(3,⟨[1,4,5,6],[4,5,27],[],[],[],[],[]⟩)],[],[],[]⟩
def pol_Z178:Pol:=⟨65,[(15,[none,none,none,some 63]),(22,[none,none,none,some 64])],[(6,⟨[0,1,2,6,8,9],[6,8,60,64],[],[],[],[],[]⟩),(10,⟨[0,1,2,6,8,9,10],[6,8,60,64],[],[],[],[],[]⟩)],[],[],[]⟩
def pol_Z130:Pol:=⟨84,[(43,[none,none,none,some 83])],[(12,⟨[1,2,5,6,9,10],[1,2,5,6,9,83],[],[],[],[],[]⟩),(15,⟨[1,2,5,6,9,10,11],[1,2,5,6,9,83],[],[],[],[],[]⟩)],[],[],[]⟩
def pol_Z29:Pol:=⟨11,[],[],[],[],[]⟩
def pol_Z90:Pol:=⟨13,[],[],[],[],[]⟩
def pol_Z56:Pol:=⟨32,[],[(3,⟨[5,12,13,14],[],[],[],[],[],[]⟩)],[],[],[]⟩
def pol_Z40:Pol:=⟨53,[],[(4,⟨[1,2,6,7,12,13,14],[2,25],[(6,25,yI,true)],[],[],[],[]⟩)],[],[],[]⟩
def pol_Z153:Pol:=⟨248,[(37,[some 247])],[(8,⟨[0,2,5,6,7,8,9,10,11],[2,5,47,247],[],[],[],[],[]⟩),(11,⟨[0,2,5,6,7,8,9,10,11,12],[2,5,47,247],[],[],[],[],[]⟩),(17,⟨[0,2,5,6,7,8,9,10,11,12,13],[2,5,47,247],[],[],[],[],[]⟩),(26,⟨[0,2,5,6,7,8,9,10,11,16,17],[2,5,47,247],[],[],[],[],[]⟩),(30,⟨[0,2,5,6,7,8,9,10,11,18],[2,5,47,247],[],[],[],[],[]⟩),(35,⟨[0,2,5,6,7,8,9,10,11,18,19,20],[2,5,47,247],[],[],[],[],[]⟩)],[],[(2,⟨[0,2,5],[2,5,247],[],[],[],[],[]⟩),(22,⟨[0,2,5,6,7,8,9,10,11],[2,5,47,247],[],[],[],[],[]⟩),(1000058,⟨[0,2,5,6,7,8,9,10,11,58],[2,5,47,247],[],[],[],[],[]⟩),(1000079,⟨[0,2,5,6,7,8,9,10,11,12,79],[2,5,47,247],[],[],[],[],[]⟩),(1000200,⟨[0,2,5,6,7,8,9,10,11,18,19,200],[2,5,47,247],[],[],[],[],[]⟩)],[]⟩
def pol_Z150:Pol:=⟨14,[],[],[],[],[]⟩
def pol_Z66:Pol:=⟨21,[],[(2,⟨[0,3],[],[],[],[],[],[]⟩)],[],[],[]⟩
def pol_Z25:Pol:=⟨7,[],[],[],[],[]⟩
def pol_Z69:Pol:=⟨6,[],[],[],[],[]⟩
def pol_Z2:Pol:=⟨19,[],[(3,⟨[3,6,7,8],[],[],[],[],[],[]⟩)],[],[],[]⟩
def pol_Z0:Pol:=⟨22,[],[],[],[],[]⟩
def pol_Z106:Pol:=⟨38,[],[(2,⟨[0,1,9,10,11],[],[],[],[],[],[]⟩)],[],[],[]⟩
def pol_Z118:Pol:=⟨21,[],[(2,⟨[0,1,7,8],[],[],[],[],[],[]⟩)],[],[],[]⟩
def pol_Z46:Pol:=⟨11,[],[],[],[],[]⟩
def pol_Z61:Pol:=⟨12,[],[],[],[],[]⟩
def pol_Z166:Pol:=⟨74,[(57,[some 73])],[(2,⟨[0,1,4],[71],[],[],[],[],[]⟩),(6,⟨[0,1,5],[71],[],[],[],[],[]⟩)],[],[(1000019,⟨[0,1,4,19],[71],[],[],[],[],[]⟩),(1000044,⟨[0,1,5,44],[71],[],[],[],[],[]⟩)],[]⟩
def pol_Z138:Pol:=⟨51,[],[(4,⟨[0,1,5,6,7],[8],[],[],[],[],[]⟩)],[],[(10,⟨[0,1,5,6,7],[8],[],[],[],[],[]⟩),(1000024,⟨[0,1,5,6,7,24],[8],[],[],[],[],[]⟩)],[]⟩
def pol_Z21:Pol:=⟨38,[],[],[],[],[]⟩
def pol_Z78:Pol:=⟨21,[],[],[],[],[]⟩
def pol_Z149:Pol:=⟨81,[],[(3,⟨[0,1,4,5,6],[4,5,24],[],[],[],[],[]⟩)],[],[(2,⟨[0,1,4,5],[4,5,24],[],[],[],[],[]⟩)],[]⟩
def pol_Z30:Pol:=⟨10,[],[],[],[],[]⟩
def pol_Z65:Pol:=⟨11,[],[],[],[],[]⟩
def pol_Z73:Pol:=⟨23,[],[(3,⟨[3,7,8,9],[17],[(3,17,yI,true)],[],[],[],[]⟩)],[],[],[]⟩
def pol_Z148:Pol:=⟨21,[],[(3,⟨[0,1,5,6],[],[],[],[],[],[]⟩)],[],[],[]⟩
def pol_Z3:Pol:=⟨7,[],[],[],[],[]⟩
def pol_Z1:Pol:=⟨22,[],[],[],[],[]⟩
def pol_Z75:Pol:=⟨29,[],[(2,⟨[0,1,2,7],[],[],[],[],[],[]⟩)],[],[],[]⟩
def pol_Z67:Pol:=⟨6,[],[],[],[],[]⟩
def pol_Z74:Pol:=⟨6,[],[],[],[],[]⟩
def pol_Z4:Pol:=⟨7,[],[],[],[],[]⟩
def sigL:List (Option Sig):=[none,none,none,none,none,some sg_Z98,none,none,none,none,none,some sg_Z100,some sg_Z132,some sg_Z99,some sg_Z7,some sg_Z133,some sg_Z131,some sg_Z11,none,some sg_Z101,none,some sg_Z16,some sg_Z5,none,none,none,none,none,none,none,some sg_Z8,some sg_Z18,some sg_Z6,some sg_Z12,some sg_Z9,some sg_Z129,none,none,none,none,none,some sg_Z13,none,none,none,none,none,none,none,none,none,none,none,none,none,none,none,none,none,none,none,none,none,none,none,none,none,none,none,none,none,none,none,none,none,none,none,none,some sg_Z135,some sg_Z177,some sg_Z57,some sg_Z36,some sg_Z181,some sg_Z159,some sg_Z184,some sg_Z144,some sg_Z93,some sg_Z63,none,some sg_Z34,none,none,none,some sg_Z76,some sg_Z28,some sg_Z35,some sg_Z26,none,none,none,none,none,none,some sg_Z84,some sg_Z59,none,some sg_Z169,none,some sg_Z19,none,none,some sg_Z88,some sg_Z72,some sg_Z22,some sg_Z94,some sg_Z31,some sg_Z47,some sg_Z81,some sg_Z10,some sg_Z91,some sg_Z165,some sg_Z134,some sg_Z170,none,none,some sg_Z164,none,none,some sg_Z83,some sg_Z110,none,none,some sg_Z60,some sg_Z127,some sg_Z23,some sg_Z95,none,some sg_Z96,none,none,none,none,none,some sg_Z80,none,none,none,none,none,none,none,none,none,none,some sg_Z58,some sg_Z116,some sg_Z167,some sg_Z163,some sg_Z171,none,some sg_Z154,none,none,none,none,none,none,none,some sg_Z70,none,none,none,none,some sg_Z86,none,some sg_Z107,none,none,none,some sg_Z141,none,some sg_Z85,none,none,none,none,some sg_Z176,some sg_Z174,some sg_Z173,some sg_Z180,some sg_Z168,some sg_Z147,some sg_Z64,some sg_Z183,some sg_Z175,some sg_Z179,some sg_Z182,some sg_Z136,some sg_Z142,some sg_Z68,none,some sg_Z89,some sg_Z87,some sg_Z37,none,some sg_Z146,some sg_Z156,some sg_Z162,none,none,some sg_Z172,some sg_Z44,some sg_Z15,some sg_Z48,some sg_Z43,some sg_Z55,some sg_Z14,some sg_Z27,some sg_Z143,none,none,none,some sg_Z137,none,none,some sg_Z39,some sg_Z41,none,none,some sg_Z24,some sg_Z38,some sg_Z108,some sg_Z49,some sg_Z20,none,none,none,some sg_Z45,some sg_Z115,some sg_Z79,some sg_Z32,some sg_Z104,some sg_Z33,some sg_Z42,some sg_Z50,some sg_Z92,some sg_Z157,some sg_Z161,some sg_Z145,some sg_Z152,some sg_Z158,some sg_Z160,none,some sg_Z121,some sg_Z102,some sg_Z62,some sg_Z77,some sg_Z17,some sg_Z97,none,none,none,none,none,none,none,some sg_Z140,none,none,none,none,none,some sg_Z128,some sg_Z105,some sg_Z139,some sg_Z151,none,none,none,none,none,some sg_Z71,none,none,none,some sg_Z117,none,some sg_Z155,some sg_Z178,some sg_Z130,some sg_Z29,none,some sg_Z90,some sg_Z56,none,some sg_Z40,none,none,some sg_Z153,none,some sg_Z150,some sg_Z66,some sg_Z25,some sg_Z69,some sg_Z2,some sg_Z0,some sg_Z106,some sg_Z118,none,none,some sg_Z46,some sg_Z61,some sg_Z166,some sg_Z138,some sg_Z21,some sg_Z78,none,none,none,none,some sg_Z149,some sg_Z30,some sg_Z65,none,some sg_Z73,none,some sg_Z148,some sg_Z3,some sg_Z1,none,none,none,none,none,none,none,none,none,none,none,some sg_Z75,some sg_Z67,none,none,none,none,none,none,none,none,some sg_Z74,some sg_Z4,none,none,none,none,none,none,none,none,none,none,none,none,none,none,none,none,none,none,none,none,none,none,none,none,none,none]
def fnL:List (Option (Func×Pol)):=[none,none,none,none,none,some (F_Z98,pol_Z98),none,none,none,none,none,some (F_Z100,pol_Z100),some (F_Z132,pol_Z132),some (F_Z99,pol_Z99),some (F_Z7,pol_Z7),some (F_Z133,pol_Z133),some (F_Z131,pol_Z131),some (F_Z11,pol_Z11),none,some (F_Z101,pol_Z101),none,some (F_Z16,pol_Z16),some (F_Z5,pol_Z5),none,none,none,none,none,none,none,some (F_Z8,pol_Z8),some (F_Z18,pol_Z18),some (F_Z6,pol_Z6),some (F_Z12,pol_Z12),some (F_Z9,pol_Z9),some (F_Z129,pol_Z129),none,none,none,none,none,some (F_Z13,pol_Z13),none,none,none,none,none,none,none,none,none,none,none,none,none,none,none,none,none,none,none,none,none,none,none,none,none,none,none,none,none,none,none,none,none,none,none,none,some (F_Z135,pol_Z135),some (F_Z177,pol_Z177),some (F_Z57,pol_Z57),some (F_Z36,pol_Z36),some (F_Z181,pol_Z181),some (F_Z159,pol_Z159),some (F_Z184,pol_Z184),some (F_Z144,pol_Z144),some (F_Z93,pol_Z93),some (F_Z63,pol_Z63),none,some (F_Z34,pol_Z34),none,none,none,some (F_Z76,pol_Z76),some (F_Z28,pol_Z28),some (F_Z35,pol_Z35),some (F_Z26,pol_Z26),none,none,none,none,none,none,some (F_Z84,pol_Z84),none,none,some (F_Z169,pol_Z169),none,some (F_Z19,pol_Z19),none,none,some (F_Z88,pol_Z88),some (F_Z72,pol_Z72),some (F_Z22,pol_Z22),some (F_Z94,pol_Z94),some (F_Z31,pol_Z31),some (F_Z47,pol_Z47),some (F_Z81,pol_Z81),some (F_Z10,pol_Z10),some (F_Z91,pol_Z91),some (F_Z165,pol_Z165),some (F_Z134,pol_Z134),some (F_Z170,pol_Z170),none,none,some (F_Z164,pol_Z164),none,none,some (F_Z83,pol_Z83),some (F_Z110,pol_Z110),none,none,some (F_Z60,pol_Z60),some (F_Z127,pol_Z127),some (F_Z23,pol_Z23),some (F_Z95,pol_Z95),none,some (F_Z96,pol_Z96),none,none,none,none,none,some (F_Z80,pol_Z80),none,none,none,none,none,none,none,none,none,none,some (F_Z58,pol_Z58),some (F_Z116,pol_Z116),some (F_Z167,pol_Z167),some (F_Z163,pol_Z163),some (F_Z171,pol_Z171),none,some (F_Z154,pol_Z154),none,none,none,none,none,none,none,some (F_Z70,pol_Z70),none,none,none,none,some (F_Z86,pol_Z86),none,some (F_Z107,pol_Z107),none,none,none,some (F_Z141,pol_Z141),none,some (F_Z85,pol_Z85),none,none,none,none,some (F_Z176,pol_Z176),some (F_Z174,pol_Z174),some (F_Z173,pol_Z173),some (F_Z180,pol_Z180),some (F_Z168,pol_Z168),some (F_Z147,pol_Z147),some (F_Z64,pol_Z64),some (F_Z183,pol_Z183),some (F_Z175,pol_Z175),some (F_Z179,pol_Z179),some (F_Z182,pol_Z182),some (F_Z136,pol_Z136),some (F_Z142,pol_Z142),some (F_Z68,pol_Z68),none,some (F_Z89,pol_Z89),some (F_Z87,pol_Z87),some (F_Z37,pol_Z37),none,some (F_Z146,pol_Z146),some (F_Z156,pol_Z156),some (F_Z162,pol_Z162),none,none,some (F_Z172,pol_Z172),some (F_Z44,pol_Z44),some (F_Z15,pol_Z15),some (F_Z48,pol_Z48),some (F_Z43,pol_Z43),some (F_Z55,pol_Z55),some (F_Z14,pol_Z14),some (F_Z27,pol_Z27),some (F_Z143,pol_Z143),none,none,none,some (F_Z137,pol_Z137),none,none,some (F_Z39,pol_Z39),some (F_Z41,pol_Z41),none,none,some (F_Z24,pol_Z24),some (F_Z38,pol_Z38),some (F_Z108,pol_Z108),some (F_Z49,pol_Z49),some (F_Z20,pol_Z20),none,none,none,some (F_Z45,pol_Z45),some (F_Z115,pol_Z115),some (F_Z79,pol_Z79),some (F_Z32,pol_Z32),some (F_Z104,pol_Z104),some (F_Z33,pol_Z33),some (F_Z42,pol_Z42),some (F_Z50,pol_Z50),some (F_Z92,pol_Z92),some (F_Z157,pol_Z157),some (F_Z161,pol_Z161),some (F_Z145,pol_Z145),some (F_Z152,pol_Z152),some (F_Z158,pol_Z158),some (F_Z160,pol_Z160),none,some (F_Z121,pol_Z121),some (F_Z102,pol_Z102),some (F_Z62,pol_Z62),some (F_Z77,pol_Z77),some (F_Z17,pol_Z17),some (F_Z97,pol_Z97),none,none,none,none,none,none,none,some (F_Z140,pol_Z140),none,none,none,none,none,none,none,some (F_Z139,pol_Z139),some (F_Z151,pol_Z151),none,none,none,none,none,some (F_Z71,pol_Z71),none,none,none,none,none,some (F_Z155,pol_Z155),some (F_Z178,pol_Z178),some (F_Z130,pol_Z130),some (F_Z29,pol_Z29),none,some (F_Z90,pol_Z90),some (F_Z56,pol_Z56),none,some (F_Z40,pol_Z40),none,none,some (F_Z153,pol_Z153),none,some (F_Z150,pol_Z150),some (F_Z66,pol_Z66),some (F_Z25,pol_Z25),some (F_Z69,pol_Z69),some (F_Z2,pol_Z2),some (F_Z0,pol_Z0),some (F_Z106,pol_Z106),some (F_Z118,pol_Z118),none,none,some (F_Z46,pol_Z46),some (F_Z61,pol_Z61),some (F_Z166,pol_Z166),some (F_Z138,pol_Z138),some (F_Z21,pol_Z21),some (F_Z78,pol_Z78),none,none,none,none,some (F_Z149,pol_Z149),some (F_Z30,pol_Z30),some (F_Z65,pol_Z65),none,some (F_Z73,pol_Z73),none,some (F_Z148,pol_Z148),some (F_Z3,pol_Z3),some (F_Z1,pol_Z1),none,none,none,none,none,none,none,none,none,none,none,some (F_Z75,pol_Z75),some (F_Z67,pol_Z67),none,none,none,none,none,none,none,none,some (F_Z74,pol_Z74),some (F_Z4,pol_Z4),none,none,none,none,none,none,none,none,none,none,none,none,none,none,none,none,none,none,none,none,none,none,none,none,none,none]
def primL:List (Option (Run→List Dv→Option Dv)):=[none,none,none,none,none,none,none,none,none,none,none,none,none,none,none,none,none,none,none,none,none,none,none,none,none,none,none,none,none,none,none,none,none,none,none,none,none,none,none,none,none,none,none,none,none,none,none,none,none,none,none,none,none,none,none,none,none,none,none,none,none,none,none,none,none,none,none,none,none,none,none,none,none,none,none,none,none,none,none,none,none,none,none,none,none,none,none,none,none,none,none,none,none,none,none,none,none,none,none,none,none,none,none,none,some (qg6 n_Z39 n_Z41 n_Z87),none,none,none,none,none,none,none,none,none,none,none,none,none,none,none,none,none,none,none,none,none,none,none,none,none,none,none,none,none,none,none,none,none,none,none,none,none,none,none,none,none,none,none,none,none,none,none,none,none,none,none,none,none,none,none,none,none,none,none,none,none,none,none,none,none,none,none,none,none,none,none,none,none,none,none,none,none,none,none,none,none,none,none,none,none,none,none,none,none,none,none,none,none,none,none,none,none,none,none,none,none,none,none,none,none,none,none,none,none,none,none,none,none,none,none,none,none,none,none,none,none,none,none,none,none,none,none,none,none,none,none,none,none,none,none,none,none,none,none,none,none,none,none,none,none,none,none,none,none,none,none,none,none,none,none,none,none,none,none,none,none,none,none,none,none,none,none,some (qhf n_Z38),some (qdQ n_Z116),none,none,none,none,none,none,none,none,none,none,none,some (qnX yI),none,none,none,none,none,none,none,none,none,none,none,none,none,none,none,none,none,none,none,none,none,none,none,none,none,none,none,none,none,none,none,none,none,none,none,none,none,none,none,none,none,none,none,none,none,none,none,none,none,none,none,none,none,none,none,none,none,none,none,none,none,none,none,none,none,none,none,none,none,none,none,none,none,none,none,none,none,none,none,none,none,none,none,none,none,none,none,none,none,none,none,none]
def E:Env:={ P:=Tryz.prog,fn:=fun f=>fnL.getD f none,prim:=fun f=>primL.getD f none,sig:=fun f=>sigL.getD f none }
theorem sig_laws_FnCohomology_eq:E.sig n_Z98=some sg_Z98:=rfl
abbrev RT(f:Nat)(s:Sig)(q:Pol)(F:Func):Prop:=∀ n args,run E (n+1) f args=qsp E (mkR (run E n)) s q F n args
theorem run_Z98:RT n_Z98 sg_Z98 pol_Z98 F_Z98:=fun _ _=>rfl
theorem run_Z100:RT n_Z100 sg_Z100 pol_Z100 F_Z100:=fun _ _=>rfl
theorem run_Z132:RT n_Z132 sg_Z132 pol_Z132 F_Z132:=fun _ _=>rfl
theorem run_Z99:RT n_Z99 sg_Z99 pol_Z99 F_Z99:=fun _ _=>rfl
theorem run_Z7:RT n_Z7 sg_Z7 pol_Z7 F_Z7:=fun _ _=>rfl
theorem run_Z133:RT n_Z133 sg_Z133 pol_Z133 F_Z133:=fun _ _=>rfl
theorem run_Z131:RT n_Z131 sg_Z131 pol_Z131 F_Z131:=fun _ _=>rfl
theorem run_Z11:RT n_Z11 sg_Z11 pol_Z11 F_Z11:=fun _ _=>rfl
theorem run_Z101:RT n_Z101 sg_Z101 pol_Z101 F_Z101:=fun _ _=>rfl
theorem run_Z16:RT n_Z16 sg_Z16 pol_Z16 F_Z16:=fun _ _=>rfl
theorem run_Z5:RT n_Z5 sg_Z5 pol_Z5 F_Z5:=fun _ _=>rfl
theorem run_Z8:RT n_Z8 sg_Z8 pol_Z8 F_Z8:=fun _ _=>rfl
theorem run_Z18:RT n_Z18 sg_Z18 pol_Z18 F_Z18:=fun _ _=>rfl
theorem run_Z6:RT n_Z6 sg_Z6 pol_Z6 F_Z6:=fun _ _=>rfl
theorem run_Z12:RT n_Z12 sg_Z12 pol_Z12 F_Z12:=fun _ _=>rfl
theorem run_Z9:RT n_Z9 sg_Z9 pol_Z9 F_Z9:=fun _ _=>rfl
theorem run_Z129:RT n_Z129 sg_Z129 pol_Z129 F_Z129:=fun _ _=>rfl
theorem run_Z13:RT n_Z13 sg_Z13 pol_Z13 F_Z13:=fun _ _=>rfl
theorem run_Z135:RT n_Z135 sg_Z135 pol_Z135 F_Z135:=fun _ _=>rfl
theorem run_Z177:RT n_Z177 sg_Z177 pol_Z177 F_Z177:=fun _ _=>rfl
theorem run_Z57:RT n_Z57 sg_Z57 pol_Z57 F_Z57:=fun _ _=>rfl
theorem run_Z36:RT n_Z36 sg_Z36 pol_Z36 F_Z36:=fun _ _=>rfl
theorem run_Z181:RT n_Z181 sg_Z181 pol_Z181 F_Z181:=fun _ _=>rfl
theorem run_Z159:RT n_Z159 sg_Z159 pol_Z159 F_Z159:=fun _ _=>rfl
theorem run_Z184:RT n_Z184 sg_Z184 pol_Z184 F_Z184:=fun _ _=>rfl
theorem run_Z144:RT n_Z144 sg_Z144 pol_Z144 F_Z144:=fun _ _=>rfl
theorem run_Z93:RT n_Z93 sg_Z93 pol_Z93 F_Z93:=fun _ _=>rfl
theorem run_Z63:RT n_Z63 sg_Z63 pol_Z63 F_Z63:=fun _ _=>rfl
theorem run_Z34:RT n_Z34 sg_Z34 pol_Z34 F_Z34:=fun _ _=>rfl
theorem run_Z76:RT n_Z76 sg_Z76 pol_Z76 F_Z76:=fun _ _=>rfl
theorem run_Z28:RT n_Z28 sg_Z28 pol_Z28 F_Z28:=fun _ _=>rfl
theorem run_Z35:RT n_Z35 sg_Z35 pol_Z35 F_Z35:=fun _ _=>rfl
theorem run_Z26:RT n_Z26 sg_Z26 pol_Z26 F_Z26:=fun _ _=>rfl
theorem run_Z84:RT n_Z84 sg_Z84 pol_Z84 F_Z84:=fun _ _=>rfl
theorem sig_impl_independent_eq:E.sig n_Z59=some sg_Z59:=rfl
theorem run_Z169:RT n_Z169 sg_Z169 pol_Z169 F_Z169:=fun _ _=>rfl
theorem run_Z19:RT n_Z19 sg_Z19 pol_Z19 F_Z19:=fun _ _=>rfl
theorem run_Z88:RT n_Z88 sg_Z88 pol_Z88 F_Z88:=fun _ _=>rfl
theorem run_Z72:RT n_Z72 sg_Z72 pol_Z72 F_Z72:=fun _ _=>rfl
theorem run_Z22:RT n_Z22 sg_Z22 pol_Z22 F_Z22:=fun _ _=>rfl
theorem run_Z94:RT n_Z94 sg_Z94 pol_Z94 F_Z94:=fun _ _=>rfl
theorem run_Z31:RT n_Z31 sg_Z31 pol_Z31 F_Z31:=fun _ _=>rfl
theorem run_Z47:RT n_Z47 sg_Z47 pol_Z47 F_Z47:=fun _ _=>rfl
theorem run_Z81:RT n_Z81 sg_Z81 pol_Z81 F_Z81:=fun _ _=>rfl
theorem run_Z10:RT n_Z10 sg_Z10 pol_Z10 F_Z10:=fun _ _=>rfl
theorem run_Z91:RT n_Z91 sg_Z91 pol_Z91 F_Z91:=fun _ _=>rfl
theorem run_Z165:RT n_Z165 sg_Z165 pol_Z165 F_Z165:=fun _ _=>rfl
theorem run_Z134:RT n_Z134 sg_Z134 pol_Z134 F_Z134:=fun _ _=>rfl
theorem run_Z170:RT n_Z170 sg_Z170 pol_Z170 F_Z170:=fun _ _=>rfl
theorem run_Z164:RT n_Z164 sg_Z164 pol_Z164 F_Z164:=fun _ _=>rfl
theorem run_Z83:RT n_Z83 sg_Z83 pol_Z83 F_Z83:=fun _ _=>rfl
theorem run_Z110:RT n_Z110 sg_Z110 pol_Z110 F_Z110:=fun _ _=>rfl
theorem run_Z60:RT n_Z60 sg_Z60 pol_Z60 F_Z60:=fun _ _=>rfl
theorem run_Z127:RT n_Z127 sg_Z127 pol_Z127 F_Z127:=fun _ _=>rfl
theorem run_Z23:RT n_Z23 sg_Z23 pol_Z23 F_Z23:=fun _ _=>rfl
theorem run_Z95:RT n_Z95 sg_Z95 pol_Z95 F_Z95:=fun _ _=>rfl
theorem run_Z96:RT n_Z96 sg_Z96 pol_Z96 F_Z96:=fun _ _=>rfl
theorem run_Z80:RT n_Z80 sg_Z80 pol_Z80 F_Z80:=fun _ _=>rfl
theorem run_Z58:RT n_Z58 sg_Z58 pol_Z58 F_Z58:=fun _ _=>rfl
theorem run_Z116:RT n_Z116 sg_Z116 pol_Z116 F_Z116:=fun _ _=>rfl
theorem run_Z167:RT n_Z167 sg_Z167 pol_Z167 F_Z167:=fun _ _=>rfl
theorem run_Z163:RT n_Z163 sg_Z163 pol_Z163 F_Z163:=fun _ _=>rfl
theorem run_Z171:RT n_Z171 sg_Z171 pol_Z171 F_Z171:=fun _ _=>rfl
theorem run_Z154:RT n_Z154 sg_Z154 pol_Z154 F_Z154:=fun _ _=>rfl
theorem run_Z70:RT n_Z70 sg_Z70 pol_Z70 F_Z70:=fun _ _=>rfl
theorem run_Z86:RT n_Z86 sg_Z86 pol_Z86 F_Z86:=fun _ _=>rfl
theorem run_Z107:RT n_Z107 sg_Z107 pol_Z107 F_Z107:=fun _ _=>rfl
theorem run_Z141:RT n_Z141 sg_Z141 pol_Z141 F_Z141:=fun _ _=>rfl
theorem run_Z85:RT n_Z85 sg_Z85 pol_Z85 F_Z85:=fun _ _=>rfl
theorem run_Z176:RT n_Z176 sg_Z176 pol_Z176 F_Z176:=fun _ _=>rfl
theorem run_Z174:RT n_Z174 sg_Z174 pol_Z174 F_Z174:=fun _ _=>rfl
theorem run_Z173:RT n_Z173 sg_Z173 pol_Z173 F_Z173:=fun _ _=>rfl
theorem run_Z180:RT n_Z180 sg_Z180 pol_Z180 F_Z180:=fun _ _=>rfl
theorem run_Z168:RT n_Z168 sg_Z168 pol_Z168 F_Z168:=fun _ _=>rfl
theorem run_Z147:RT n_Z147 sg_Z147 pol_Z147 F_Z147:=fun _ _=>rfl
theorem run_Z64:RT n_Z64 sg_Z64 pol_Z64 F_Z64:=fun _ _=>rfl
theorem run_Z183:RT n_Z183 sg_Z183 pol_Z183 F_Z183:=fun _ _=>rfl
theorem run_Z175:RT n_Z175 sg_Z175 pol_Z175 F_Z175:=fun _ _=>rfl
theorem run_Z179:RT n_Z179 sg_Z179 pol_Z179 F_Z179:=fun _ _=>rfl
theorem run_Z182:RT n_Z182 sg_Z182 pol_Z182 F_Z182:=fun _ _=>rfl
theorem run_Z136:RT n_Z136 sg_Z136 pol_Z136 F_Z136:=fun _ _=>rfl
theorem run_Z142:RT n_Z142 sg_Z142 pol_Z142 F_Z142:=fun _ _=>rfl
theorem run_Z68:RT n_Z68 sg_Z68 pol_Z68 F_Z68:=fun _ _=>rfl
theorem run_Z89:RT n_Z89 sg_Z89 pol_Z89 F_Z89:=fun _ _=>rfl
theorem run_Z87:RT n_Z87 sg_Z87 pol_Z87 F_Z87:=fun _ _=>rfl
theorem run_Z37:RT n_Z37 sg_Z37 pol_Z37 F_Z37:=fun _ _=>rfl
theorem run_Z146:RT n_Z146 sg_Z146 pol_Z146 F_Z146:=fun _ _=>rfl
theorem run_Z156:RT n_Z156 sg_Z156 pol_Z156 F_Z156:=fun _ _=>rfl
theorem run_Z162:RT n_Z162 sg_Z162 pol_Z162 F_Z162:=fun _ _=>rfl
theorem run_Z172:RT n_Z172 sg_Z172 pol_Z172 F_Z172:=fun _ _=>rfl
theorem run_Z44:RT n_Z44 sg_Z44 pol_Z44 F_Z44:=fun _ _=>rfl
theorem run_Z15:RT n_Z15 sg_Z15 pol_Z15 F_Z15:=fun _ _=>rfl
theorem run_Z48:RT n_Z48 sg_Z48 pol_Z48 F_Z48:=fun _ _=>rfl
theorem run_Z43:RT n_Z43 sg_Z43 pol_Z43 F_Z43:=fun _ _=>rfl
theorem run_Z55:RT n_Z55 sg_Z55 pol_Z55 F_Z55:=fun _ _=>rfl
theorem run_Z14:RT n_Z14 sg_Z14 pol_Z14 F_Z14:=fun _ _=>rfl
theorem run_Z27:RT n_Z27 sg_Z27 pol_Z27 F_Z27:=fun _ _=>rfl
theorem run_Z143:RT n_Z143 sg_Z143 pol_Z143 F_Z143:=fun _ _=>rfl
theorem run_Z137:RT n_Z137 sg_Z137 pol_Z137 F_Z137:=fun _ _=>rfl
theorem run_Z39:RT n_Z39 sg_Z39 pol_Z39 F_Z39:=fun _ _=>rfl
theorem run_Z41:RT n_Z41 sg_Z41 pol_Z41 F_Z41:=fun _ _=>rfl
theorem run_Z24:RT n_Z24 sg_Z24 pol_Z24 F_Z24:=fun _ _=>rfl
theorem sig_impl_compareSimplices_eq:E.sig n_Z38=some sg_Z38:=rfl
theorem run_Z38:RT n_Z38 sg_Z38 pol_Z38 F_Z38:=fun _ _=>rfl
theorem run_Z108:RT n_Z108 sg_Z108 pol_Z108 F_Z108:=fun _ _=>rfl
theorem run_Z49:RT n_Z49 sg_Z49 pol_Z49 F_Z49:=fun _ _=>rfl
theorem run_Z20:RT n_Z20 sg_Z20 pol_Z20 F_Z20:=fun _ _=>rfl
theorem run_Z45:RT n_Z45 sg_Z45 pol_Z45 F_Z45:=fun _ _=>rfl
theorem run_Z115:RT n_Z115 sg_Z115 pol_Z115 F_Z115:=fun _ _=>rfl
theorem run_Z79:RT n_Z79 sg_Z79 pol_Z79 F_Z79:=fun _ _=>rfl
theorem run_Z32:RT n_Z32 sg_Z32 pol_Z32 F_Z32:=fun _ _=>rfl
theorem run_Z104:RT n_Z104 sg_Z104 pol_Z104 F_Z104:=fun _ _=>rfl
theorem run_Z33:RT n_Z33 sg_Z33 pol_Z33 F_Z33:=fun _ _=>rfl
theorem run_Z42:RT n_Z42 sg_Z42 pol_Z42 F_Z42:=fun _ _=>rfl
theorem run_Z50:RT n_Z50 sg_Z50 pol_Z50 F_Z50:=fun _ _=>rfl
theorem run_Z92:RT n_Z92 sg_Z92 pol_Z92 F_Z92:=fun _ _=>rfl
theorem run_Z157:RT n_Z157 sg_Z157 pol_Z157 F_Z157:=fun _ _=>rfl
theorem run_Z161:RT n_Z161 sg_Z161 pol_Z161 F_Z161:=fun _ _=>rfl
theorem run_Z145:RT n_Z145 sg_Z145 pol_Z145 F_Z145:=fun _ _=>rfl
theorem run_Z152:RT n_Z152 sg_Z152 pol_Z152 F_Z152:=fun _ _=>rfl
theorem run_Z158:RT n_Z158 sg_Z158 pol_Z158 F_Z158:=fun _ _=>rfl
theorem run_Z160:RT n_Z160 sg_Z160 pol_Z160 F_Z160:=fun _ _=>rfl
theorem run_Z121:RT n_Z121 sg_Z121 pol_Z121 F_Z121:=fun _ _=>rfl
theorem run_Z102:RT n_Z102 sg_Z102 pol_Z102 F_Z102:=fun _ _=>rfl
theorem run_Z62:RT n_Z62 sg_Z62 pol_Z62 F_Z62:=fun _ _=>rfl
theorem run_Z77:RT n_Z77 sg_Z77 pol_Z77 F_Z77:=fun _ _=>rfl
theorem run_Z17:RT n_Z17 sg_Z17 pol_Z17 F_Z17:=fun _ _=>rfl
theorem run_Z97:RT n_Z97 sg_Z97 pol_Z97 F_Z97:=fun _ _=>rfl
theorem run_Z140:RT n_Z140 sg_Z140 pol_Z140 F_Z140:=fun _ _=>rfl
theorem sig_slices_SortFunc_SSint64_Sint64_eq:E.sig n_Z128=some sg_Z128:=rfl
theorem sig_slices_CompactFunc_SSint64_Sint64_eq:E.sig n_Z105=some sg_Z105:=rfl
theorem run_Z139:RT n_Z139 sg_Z139 pol_Z139 F_Z139:=fun _ _=>rfl
theorem run_Z151:RT n_Z151 sg_Z151 pol_Z151 F_Z151:=fun _ _=>rfl
theorem run_Z71:RT n_Z71 sg_Z71 pol_Z71 F_Z71:=fun _ _=>rfl
theorem sig_slices_Grow_Sint64_int64_eq:E.sig n_Z117=some sg_Z117:=rfl
theorem run_Z155:RT n_Z155 sg_Z155 pol_Z155 F_Z155:=fun _ _=>rfl
theorem run_Z178:RT n_Z178 sg_Z178 pol_Z178 F_Z178:=fun _ _=>rfl
theorem run_Z130:RT n_Z130 sg_Z130 pol_Z130 F_Z130:=fun _ _=>rfl
theorem run_Z29:RT n_Z29 sg_Z29 pol_Z29 F_Z29:=fun _ _=>rfl
theorem run_Z90:RT n_Z90 sg_Z90 pol_Z90 F_Z90:=fun _ _=>rfl
theorem run_Z56:RT n_Z56 sg_Z56 pol_Z56 F_Z56:=fun _ _=>rfl
theorem run_Z40:RT n_Z40 sg_Z40 pol_Z40 F_Z40:=fun _ _=>rfl
theorem run_Z153:RT n_Z153 sg_Z153 pol_Z153 F_Z153:=fun _ _=>rfl
theorem run_Z150:RT n_Z150 sg_Z150 pol_Z150 F_Z150:=fun _ _=>rfl
theorem run_Z66:RT n_Z66 sg_Z66 pol_Z66 F_Z66:=fun _ _=>rfl
theorem run_Z25:RT n_Z25 sg_Z25 pol_Z25 F_Z25:=fun _ _=>rfl
theorem run_Z69:RT n_Z69 sg_Z69 pol_Z69 F_Z69:=fun _ _=>rfl
theorem run_Z2:RT n_Z2 sg_Z2 pol_Z2 F_Z2:=fun _ _=>rfl
theorem run_Z0:RT n_Z0 sg_Z0 pol_Z0 F_Z0:=fun _ _=>rfl
theorem run_Z106:RT n_Z106 sg_Z106 pol_Z106 F_Z106:=fun _ _=>rfl
theorem run_Z118:RT n_Z118 sg_Z118 pol_Z118 F_Z118:=fun _ _=>rfl
theorem run_Z46:RT n_Z46 sg_Z46 pol_Z46 F_Z46:=fun _ _=>rfl
theorem run_Z61:RT n_Z61 sg_Z61 pol_Z61 F_Z61:=fun _ _=>rfl
theorem run_Z166:RT n_Z166 sg_Z166 pol_Z166 F_Z166:=fun _ _=>rfl
theorem run_Z138:RT n_Z138 sg_Z138 pol_Z138 F_Z138:=fun _ _=>rfl
theorem run_Z21:RT n_Z21 sg_Z21 pol_Z21 F_Z21:=fun _ _=>rfl
theorem run_Z78:RT n_Z78 sg_Z78 pol_Z78 F_Z78:=fun _ _=>rfl
theorem run_Z149:RT n_Z149 sg_Z149 pol_Z149 F_Z149:=fun _ _=>rfl
theorem run_Z30:RT n_Z30 sg_Z30 pol_Z30 F_Z30:=fun _ _=>rfl
theorem run_Z65:RT n_Z65 sg_Z65 pol_Z65 F_Z65:=fun _ _=>rfl
theorem run_Z73:RT n_Z73 sg_Z73 pol_Z73 F_Z73:=fun _ _=>rfl
theorem run_Z148:RT n_Z148 sg_Z148 pol_Z148 F_Z148:=fun _ _=>rfl
theorem run_Z3:RT n_Z3 sg_Z3 pol_Z3 F_Z3:=fun _ _=>rfl
theorem run_Z1:RT n_Z1 sg_Z1 pol_Z1 F_Z1:=fun _ _=>rfl
theorem run_Z75:RT n_Z75 sg_Z75 pol_Z75 F_Z75:=fun _ _=>rfl
theorem run_Z67:RT n_Z67 sg_Z67 pol_Z67 F_Z67:=fun _ _=>rfl
theorem run_Z74:RT n_Z74 sg_Z74 pol_Z74 F_Z74:=fun _ _=>rfl
theorem run_Z4:RT n_Z4 sg_Z4 pol_Z4 F_Z4:=fun _ _=>rfl
abbrev eC(R:Run)(q:Pol)(N:Nat)(l:List Nat)(F:Func):=qbm E R q N (sub l (bodyOf F))
abbrev kB(R:Run)(q:Pol)(k:Nat)(K:Kt):=qsq (qbZ R q.blkM k) k K
abbrev kS(R:Run)(q:Pol)(k N:Nat)(l:List Nat)(F:Func)(K:Kt):=qsk (qbZ R q.seqM k) (qbm E R q N (sub l (bodyOf F))) K
abbrev kL(R:Run)(q:Pol)(k N:Nat)(l:List Nat)(F:Func)(n:Nat)(K:Kt):=qtc (qbm E R q N (sub l (bodyOf F))) (qbZ R q.loopM k) n K
abbrev lC(R:Run)(q:Pol)(k N:Nat)(l:List Nat)(F:Func)(n:Nat)(s:Ve.St)(K:Kt):=qk7 (qbm E R q N (sub l (bodyOf F))) (qbZ R q.loopM k) n s K
end
end VeT

open Go Go.Proofs Ve
set_option maxRecDepth 100000
namespace VeT
noncomputable section
abbrev q0_0(R:Run)(N:Nat):=kS R pol_Z138 11 N [1,1,1,1] F_Z138
abbrev q0_1(R:Run)(N:Nat):=kS R pol_Z153 31 N [1,1,1,1,1,1,1,0,1,0,0,1,0,0,1,1,1,1,1,1,1,1,0,1,0,0,1,1] F_Z153
abbrev q0_2(R:Run)(N:Nat):=kS R pol_Z153 38 N [1,1,1,1,1,1,1,0,1,0,0,1,0,0,1,1,1,1,1,1,1,1,1] F_Z153
abbrev q0_3(R:Run)(N:Nat):=kS R pol_Z153 9 N [1,1,1,1,1,1,1,0,1,0,0,1,1] F_Z153
abbrev q0_4(R:Run)(N:Nat):=kS R pol_Z153 40 N [1,1,1,1,1,1,1,1] F_Z153
abbrev q0_5(R:Run)(N:Nat):=kS R pol_Z153 13 N [1,1,1,1,1,1,1,0,1,0,0,1,0,0,1,1] F_Z153
abbrev q0_6(R:Run)(N:Nat):=kL R pol_Z153 30 N [1,1,1,1,1,1,1,0,1,0,0,1,0,0,1,1,1,1,1,1,1,1,0,1,0,0] F_Z153
abbrev q0_7(R:Run)(N:Nat):=kL R pol_Z153 8 N [1,1,1,1,1,1,1,0,1,0,0] F_Z153
abbrev q0_8(R:Run):=kB R pol_Z153 1
abbrev q0_9(R:Run):=kB R pol_Z153 0
theorem Z100.ev(R:Run)(N:Nat)(a0 a1:List Int):qsp E R sg_Z100 pol_Z100 F_Z100 N [⟨(.sl (.int .u8)),a0⟩,⟨(.sl (.int .u8)),a1⟩]=(bif (decide ((List.length a0:Int)>(1048576:Int))) then some ⟨o_Z100,(true,())⟩ else some ⟨o_Z100,((decide ((List.length a1:Int)>(1048576:Int))),())⟩):=by kernel_rfl
theorem Z135.ev(R:Run)(N:Nat)(a0:List Int):qsp E R sg_Z135 pol_Z135 F_Z135 N [⟨(.sl (.int .u8)),a0⟩]=some ⟨o_Z135,((a0,(0:Int),(0:Int),()),())⟩:=by kernel_rfl
def Z142.j0(R:Run)(N:Nat)(a:Int)(b:List Int)(e f:Int):Option Dv:=R.w (some ⟨(.c (.box 62 0)::(V.dead::(V.dead::(.c (.d yI a)::(zd 58 []))))),(zo 62 (some (.box [.d (.sl (.int .u8)) b,.d yI e,.d (.int .u64) f] false true)::[]))⟩) fun st=>eC R pol_Z142 N [1,1,1] F_Z142 st (qsX E sg_Z142 F_Z142)
theorem Z142.j0_eq(R:Run)(hw:R.ok)(N:Nat)(a:Int)(b:List Int)(c d:Int):Z142.j0 R N a b c d=(bif (decide ((w64 (c+(1:Int)))≤(List.length b:Int))) then some ⟨o_Z142,(a,(b,(w64 (c+(1:Int))),(IntKind.wrap .u64 ((IntKind.wrap .u64 ((IntKind.wrap .u64 (d*(6364136223846793005:Int)))+(IntKind.wrap .u64 (a))))+(1442695040888963407:Int))),()),())⟩ else((chk (decide (0≤(40:Int)))).bind fun _=>some ⟨o_Z142,((w64 ((IntKind.wrap .u64 (BitVec.toNat (BitVec.ofInt (IntKind.bits .u64) (Int.fdiv (IntKind.wrap .u64 ((IntKind.wrap .u64 ((IntKind.wrap .u64 (d*(6364136223846793005:Int)))+(IntKind.wrap .u64 (a))))+(1442695040888963407:Int))) (2 ^ (min (Int.toNat (40:Int)) (IntKind.bits .u64)))) &&& BitVec.ofInt (IntKind.bits .u64) (255:Int)))))),(b,(w64 (c+(1:Int))),(IntKind.wrap .u64 ((IntKind.wrap .u64 ((IntKind.wrap .u64 (d*(6364136223846793005:Int)))+(IntKind.wrap .u64 (a))))+(1442695040888963407:Int))),()),())⟩)):=(hw _ _).trans (by kernel_rfl)
theorem Z142.ev(R:Run)(N:Nat)(a0:((List Int)×Int×Int×Unit)):qsp E R sg_Z142 pol_Z142 F_Z142 N [⟨(.ptr yR),a0⟩]=(bif (decide (a0.2.1<(List.length a0.1:Int))) then((idx? a0.1 a0.2.1).bind fun y1=>(Z142.j0 R N (w64 ((y1,()).1)) a0.1 a0.2.1 a0.2.2.1)) else(Z142.j0 R N (0:Int) a0.1 a0.2.1 a0.2.2.1)):=by kernel_rfl
theorem Z144.ev(R:Run)(N:Nat)(a0:((List Int)×Int×Int×Unit))(a1:Int):qsp E R sg_Z144 pol_Z144 F_Z144 N [⟨(.ptr yR),a0⟩,⟨yI,a1⟩]=(bif (decide (a1≤(1:Int))) then some ⟨o_Z144,((0:Int),(a0.1,a0.2.1,a0.2.2.1,()),())⟩ else((qcx R n_Z142 o_Z142 [⟨(.ptr yR),(a0.1,a0.2.1,a0.2.2.1,())⟩]).bind fun r1=>(bif (decide (a1>(200:Int))) then((qcx R n_Z142 o_Z142 [⟨(.ptr yR),(r1.2.1.1,r1.2.1.2.1,r1.2.1.2.2.1,())⟩]).bind fun r2=>((chk (a1 != 0)).bind fun _=>some ⟨o_Z144,((Int.tmod (w64 ((w64 (r1.1*(256:Int)))+r2.1)) a1),(r2.2.1.1,r2.2.1.2.1,r2.2.1.2.2.1,()),())⟩)) else((chk (a1 != 0)).bind fun _=>some ⟨o_Z144,((Int.tmod r1.1 a1),(r1.2.1.1,r1.2.1.2.1,r1.2.1.2.2.1,()),())⟩)))):=by kernel_rfl
def Z140.l0(R:Run)(N n:Nat)(a b:List Int)(e:Int):Option Dv:=R.w (some ⟨(.c (.d yL a)::(.c (.d yL b)::(zd 3 (.c (.d yI e)::(zd 20 []))))),(zo 28 [])⟩) fun st=>lC R pol_Z140 4 N [1,1,0,1,0,0] F_Z140 n st (kB R pol_Z140 0 (kS R pol_Z140 8 N [1,1,1] F_Z140 (qsX E sg_Z140 F_Z140)))
theorem Z140.l0_succ(R:Run)(hw:R.ok)(N n:Nat)(a b:List Int)(c:Int):Z140.l0 R N (n+1) a b c=(bif (decide (c<(List.length a:Int))) then((idx? a c).bind fun y4=>((idx? b c).bind fun y5=>(bif ((y4,()).1 != (y5,()).1) then some ⟨o_Z140,(false,())⟩ else(Z140.l0 R N n a b (w64 (c+(1:Int))))))) else some ⟨o_Z140,(true,())⟩):=(hw _ _).trans (by kernel_rfl)
theorem Z140.ev(R:Run)(N:Nat)(a0 a1:List Int):qsp E R sg_Z140 pol_Z140 F_Z140 N [⟨yL,a0⟩,⟨yL,a1⟩]=(bif ((List.length a0:Int) != (List.length a1:Int)) then some ⟨o_Z140,(false,())⟩ else(Z140.l0 R N N a0 a1 (0:Int))):=by kernel_rfl
def Z163.l0(R:Run)(N n:Nat)(a:(vK×Unit))(b:List Int)(e:Int):Option Dv:=R.w (some ⟨(.c (.ip yC a 0)::(.c (.d yL b)::(zd 3 (.c (.d yI e)::(zd 19 []))))),(zo 27 [])⟩) fun st=>lC R pol_Z163 2 N [1,0,1,0,0] F_Z163 n st (kB R pol_Z163 0 (kS R pol_Z163 6 N [1,1] F_Z163 (qsX E sg_Z163 F_Z163)))
theorem Z163.l0_succ(R:Run)(hw:R.ok)(N n:Nat)(a:(vK×Unit))(b:List Int)(c:Int):Z163.l0 R N (n+1) a b c=(bif (decide (c<(List.length a.1:Int))) then((idx? a.1 c).bind fun y4=>((qcx R n_Z140 o_Z140 [⟨yL,(y4,()).1⟩,⟨yL,b⟩]).bind fun r5=>(bif r5.1 then some ⟨o_Z163,(c,())⟩ else(Z163.l0 R N n a b (w64 (c+(1:Int))))))) else some ⟨o_Z163,((-1:Int),())⟩):=(hw _ _).trans (by kernel_rfl)
theorem Z163.ev(R:Run)(N:Nat)(a0:(vK×Unit))(a1:List Int):qsp E R sg_Z163 pol_Z163 F_Z163 N [⟨(.ptr yC),a0⟩,⟨yL,a1⟩]=(Z163.l0 R N N a0 a1 (0:Int)):=by kernel_rfl
theorem Z137.ev(R:Run)(N:Nat)(a0:List Int):qsp E R sg_Z137 pol_Z137 F_Z137 N [⟨yL,a0⟩]=((chk (decide ((List.length ([]:List Int)+List.length a0)*8≤70368744177664))).bind fun _=>some ⟨o_Z137,((([]:List Int)++a0),())⟩):=by kernel_rfl
theorem Z161.ev(R:Run)(N:Nat)(a0:List Int)(a1:Int):qsp E R sg_Z161 pol_Z161 F_Z161 N [⟨yL,a0⟩,⟨yI,a1⟩]=((chk (decide (0≤a1)&&decide (a1≤(List.length a0:Int)))).bind fun _=>((qcx R n_Z137 o_Z137 [⟨yL,(List.take (Int.toNat a1) a0)⟩]).bind fun r1=>((chk (decide (0≤(w64 (a1+(1:Int))))&&decide ((w64 (a1+(1:Int)))≤(List.length a0:Int)))).bind fun _=>((chk (decide ((List.length r1.1+List.length (List.drop (Int.toNat (w64 (a1+(1:Int)))) a0))*8≤70368744177664))).bind fun _=>some ⟨o_Z161,((r1.1++(List.drop (Int.toNat (w64 (a1+(1:Int)))) a0)),())⟩)))):=by kernel_rfl
def Z157.l0(R:Run)(N n:Nat)(a b:List Int)(e:Int):Option Dv:=R.w (some ⟨(.c (.d yL a)::(.c (.d yL b)::(zd 3 (.c (.d yI e)::(zd 34 []))))),(zo 42 [])⟩) fun st=>lC R pol_Z157 4 N [1,1,0,1,0,0] F_Z157 n st (kB R pol_Z157 0 (kS R pol_Z157 8 N [1,1,1] F_Z157 (qsX E sg_Z157 F_Z157)))
theorem Z157.l0_succ(R:Run)(hw:R.ok)(N n:Nat)(a b:List Int)(c:Int):Z157.l0 R N (n+1) a b c=(bif (decide (c<(List.length a:Int))) then((idx? a c).bind fun y4=>((idx? b c).bind fun y5=>(bif ((y4,()).1 != (y5,()).1) then((idx? a c).bind fun y6=>((idx? b c).bind fun y7=>some ⟨o_Z157,((decide ((y6,()).1<(y7,()).1)),())⟩)) else(Z157.l0 R N n a b (w64 (c+(1:Int))))))) else some ⟨o_Z157,(false,())⟩):=(hw _ _).trans (by kernel_rfl)
theorem Z157.ev(R:Run)(N:Nat)(a0 a1:List Int):qsp E R sg_Z157 pol_Z157 F_Z157 N [⟨yL,a0⟩,⟨yL,a1⟩]=(bif ((List.length a0:Int) != (List.length a1:Int)) then some ⟨o_Z157,((decide ((List.length a0:Int)<(List.length a1:Int))),())⟩ else(Z157.l0 R N N a0 a1 (0:Int))):=by kernel_rfl
def Z166.j3(R:Run)(N a:Nat)(b:List Int)(e:Int)(f:Bool)(g:vK):Option Dv:=R.w (some ⟨(.c (.box 71 0)::(.c (.d yL b)::(zd 3 (.c (.d yI e)::(zd 38 (.c (.d .bool f)::(zd 26 []))))))),(zo 71 (some (.box [.d yK g] false true)::(none::(none::[]))))⟩) fun st=>eC R pol_Z166 N [1,1,1,0,0,0,0,1] F_Z166 st (kS R pol_Z166 7 N [1,1,1,0,0,0,1] F_Z166 (kL R pol_Z166 6 N [1,1,1,0,0,0] F_Z166 a (kB R pol_Z166 2 (kS R pol_Z166 8 N [1,1,1,1] F_Z166 (qsX E sg_Z166 F_Z166)))))
def Z166.l2(R:Run)(N n:Nat)(a:List Int)(b:Int)(e:vK):Option Dv:=R.w (some ⟨(.c (.box 71 0)::(.c (.d yL a)::(zd 3 (.c (.d yI b)::(zd 65 []))))),(zo 71 (some (.box [.d yK e] false true)::(none::(none::[]))))⟩) fun st=>lC R pol_Z166 6 N [1,1,1,0,0,0] F_Z166 n st (kB R pol_Z166 2 (kS R pol_Z166 8 N [1,1,1,1] F_Z166 (qsX E sg_Z166 F_Z166)))
def Z166.j1(R:Run)(N a:Nat)(b:List Int)(e:Int)(f:Bool)(g:vK):Option Dv:=R.w (some ⟨(.c (.box 71 0)::(.c (.d yL b)::(V.dead::(V.dead::(.c (.d yI e)::(zd 14 (.c (.d .bool f)::(zd 51 [])))))))),(zo 71 (some (.box [.d yK g] false true)::(none::(none::[]))))⟩) fun st=>eC R pol_Z166 N [1,0,1,0,0,0,1] F_Z166 st (kS R pol_Z166 4 N [1,0,1,0,0,1] F_Z166 (kL R pol_Z166 2 N [1,0,1,0,0] F_Z166 a (kB R pol_Z166 0 (kS R pol_Z166 5 N [1,1] F_Z166 (qsX E sg_Z166 F_Z166)))))
def Z166.l0(R:Run)(N n:Nat)(a:List Int)(b:Int)(e:vK):Option Dv:=R.w (some ⟨(.c (.box 71 0)::(.c (.d yL a)::(V.dead::(V.dead::(.c (.d yI b)::(zd 66 [])))))),(zo 71 (some (.box [.d yK e] false true)::(none::(none::[]))))⟩) fun st=>lC R pol_Z166 2 N [1,0,1,0,0] F_Z166 n st (kB R pol_Z166 0 (kS R pol_Z166 5 N [1,1] F_Z166 (qsX E sg_Z166 F_Z166)))
theorem Z166.j3_eq(R:Run)(hw:R.ok)(N a:Nat)(b:List Int)(c:Int)(d:Bool)(e:vK):Z166.j3 R N a b c d e=(bif d then(Z166.l2 R N a b (w64 (c+(1:Int))) e) else((chk (decide (0≤c)&&decide (c≤(List.length e:Int)))).bind fun _=>((chk (decide ((List.length ([]:List (List Int))+List.length (List.take (Int.toNat c) e))*24≤70368744177664))).bind fun _=>((qcx R n_Z137 o_Z137 [⟨yL,b⟩]).bind fun r26=>((chk (decide ((List.length (([]:List (List Int))++(List.take (Int.toNat c) e))+List.length [r26.1])*24≤70368744177664))).bind fun _=>((chk (decide (0≤c)&&decide (c≤(List.length e:Int)))).bind fun _=>((chk (decide ((List.length ((([]:List (List Int))++(List.take (Int.toNat c) e))++[r26.1])+List.length (List.drop (Int.toNat c) e))*24≤70368744177664))).bind fun _=>some ⟨o_Z166,(((((([]:List (List Int))++(List.take (Int.toNat c) e))++[r26.1])++(List.drop (Int.toNat c) e)),()),())⟩))))))):=(hw _ _).trans (by kernel_rfl)
theorem Z166.l2_succ(R:Run)(hw:R.ok)(N n:Nat)(a:List Int)(b:Int)(c:vK):Z166.l2 R N (n+1) a b c=(bif (decide (b<(List.length c:Int))) then((idx? c b).bind fun y17=>((qcx R n_Z157 o_Z157 [⟨yL,(y17,()).1⟩,⟨yL,a⟩]).bind fun r18=>(Z166.j3 R N n a b r18.1 c))) else(Z166.j3 R N n a b false c)):=(hw _ _).trans (by kernel_rfl)
theorem Z166.j1_eq(R:Run)(hw:R.ok)(N a:Nat)(b:List Int)(c:Int)(d:Bool)(e:vK):Z166.j1 R N a b c d e=(bif d then((qcx R n_Z161 o_Z161 [⟨yL,b⟩,⟨yI,c⟩]).bind fun r9=>((qcx R n_Z166 o_Z166 [⟨(.ptr yC),(e,())⟩,⟨yL,r9.1⟩]).bind fun r10=>(Z166.l0 R N a b (w64 (c+(1:Int))) r10.1.1))) else(Z166.l2 R N N b (0:Int) e)):=(hw _ _).trans (by kernel_rfl)
theorem Z166.l0_succ(R:Run)(hw:R.ok)(N n:Nat)(a:List Int)(b:Int)(c:vK):Z166.l0 R N (n+1) a b c=(bif (decide (b<(List.length a:Int))) then(Z166.j1 R N n a b (decide ((List.length a:Int)>(1:Int))) c) else(Z166.j1 R N n a b false c)):=(hw _ _).trans (by kernel_rfl)
theorem Z166.ev(R:Run)(N:Nat)(a0:(vK×Unit))(a1:List Int):qsp E R sg_Z166 pol_Z166 F_Z166 N [⟨(.ptr yC),a0⟩,⟨yL,a1⟩]=((qcx R n_Z163 o_Z163 [⟨(.ptr yC),(a0.1,())⟩,⟨yL,a1⟩]).bind fun r1=>(bif (decide (r1.1≥(0:Int))) then some ⟨o_Z166,((a0.1,()),())⟩ else(Z166.l0 R N N a1 (0:Int) a0.1))):=by kernel_rfl
def Z158.l0(R:Run)(N n:Nat)(a:vK)(b:Int)(e:vK):Option Dv:=R.w (some ⟨(.c (.d yK a)::(V.dead::(.c (.box 2 0)::(.c (.box 3 0)::(.c (.d yI b)::(zd 14 [])))))),(none::(none::(some (.box [.nils yL] false false)::(some (.box [.d yK e] false false)::(zo 16 [])))))⟩) fun st=>lC R pol_Z158 3 N [1,1,0,1,0,0] F_Z158 n st (kB R pol_Z158 0 (kS R pol_Z158 6 N [1,1,1] F_Z158 (qsX E sg_Z158 F_Z158)))
theorem Z158.l0_succ(R:Run)(hw:R.ok)(N n:Nat)(a:vK)(b:Int)(c:vK):Z158.l0 R N (n+1) a b c=(bif (decide (b<(List.length a:Int))) then((idx? a b).bind fun y4=>((qcx R n_Z166 o_Z166 [⟨(.ptr yC),(c,())⟩,⟨yL,(y4,()).1⟩]).bind fun r5=>(Z158.l0 R N n a (w64 (b+(1:Int))) r5.1.1))) else some ⟨o_Z158,(c,())⟩):=(hw _ _).trans (by kernel_rfl)
theorem Z158.ev(R:Run)(N:Nat)(a0:vK):qsp E R sg_Z158 pol_Z158 F_Z158 N [⟨yK,a0⟩]=(Z158.l0 R N N a0 (0:Int) ([]:List (List Int))):=by kernel_rfl
def Z138.j2(R:Run)(N a:Nat)(b:List Int)(e:Int)(f:Bool)(g:Int)(h:List Int):Option Dv:=R.w (some ⟨(.c (.d yL b)::(.c (.d yI e)::(zd 3 (.c (.arr 8)::(.c (.d .bool f)::(.c (.d yI g)::(zd 41 []))))))),(zo 8 (some (.arr yI h true false false)::(zo 42 [])))⟩) fun st=>eC R pol_Z138 N [1,1,1,0,1,0,0,1,0,0,1] F_Z138 st (kB R pol_Z138 1 (kS R pol_Z138 5 N [1,1,1,0,1,0,0,1,1] F_Z138 (kL R pol_Z138 4 N [1,1,1,0,1,0,0] F_Z138 a (kB R pol_Z138 0 (q0_0 R N (qsX E sg_Z138 F_Z138))))))
def Z138.j1(R:Run)(N a:Nat)(b:List Int)(e:Int)(f:Bool)(g:Int)(h:Bool)(i:List Int):Option Dv:=R.w (some ⟨(.c (.d yL b)::(.c (.d yI e)::(zd 3 (.c (.arr 8)::(.c (.d .bool f)::(.c (.d yI g)::(zd 16 (.c (.d .bool h)::(zd 24 []))))))))),(zo 8 (some (.arr yI i true false false)::(zo 42 [])))⟩) fun st=>eC R pol_Z138 N [1,1,1,0,1,0,0,1,0,0,0,1] F_Z138 st (kS R pol_Z138 10 N [1,1,1,0,1,0,0,1,0,0,1] F_Z138 (kB R pol_Z138 1 (kS R pol_Z138 5 N [1,1,1,0,1,0,0,1,1] F_Z138 (kL R pol_Z138 4 N [1,1,1,0,1,0,0] F_Z138 a (kB R pol_Z138 0 (q0_0 R N (qsX E sg_Z138 F_Z138)))))))
def Z138.l0(R:Run)(N n:Nat)(a:List Int)(b:Int)(e:Bool)(f:Int)(g:List Int):Option Dv:=R.w (some ⟨(.c (.d yL a)::(.c (.d yI b)::(zd 3 (.c (.arr 8)::(.c (.d .bool e)::(.c (.d yI f)::(zd 41 []))))))),(zo 8 (some (.arr yI g true false false)::(zo 42 [])))⟩) fun st=>lC R pol_Z138 4 N [1,1,1,0,1,0,0] F_Z138 n st (kB R pol_Z138 0 (q0_0 R N (qsX E sg_Z138 F_Z138)))
theorem Z138.j2_eq(R:Run)(hw:R.ok)(N a:Nat)(b:List Int)(c:Int)(d:Bool)(e:Int)(f:List Int):Z138.j2 R N a b c d e f=((idx? b e).bind fun y19=>((chk (decide ((List.length f+List.length [(y19,()).1])*8≤70368744177664))).bind fun _=>(Z138.l0 R N a b c d (w64 (e+(1:Int))) (f++[(y19,()).1])))):=(hw _ _).trans (by kernel_rfl)
theorem Z138.j1_eq(R:Run)(hw:R.ok)(N a:Nat)(b:List Int)(c:Int)(d:Bool)(e:Int)(f:Bool)(g:List Int):Z138.j1 R N a b c d e f g=(bif f then((idx? b e).bind fun y13=>(bif (decide ((y13,()).1>c)) then((chk (decide ((List.length g+List.length [c])*8≤70368744177664))).bind fun _=>(Z138.j2 R N a b c true e (g++[c]))) else(Z138.j2 R N a b c true e g))) else(Z138.j2 R N a b c d e g)):=(hw _ _).trans (by kernel_rfl)
theorem Z138.l0_succ(R:Run)(hw:R.ok)(N n:Nat)(a:List Int)(b:Int)(c:Bool)(d:Int)(e:List Int):Z138.l0 R N (n+1) a b c d e=(bif (decide (d<(List.length a:Int))) then(bif (!c) then((idx? a d).bind fun y6=>(Z138.j1 R N n a b c d (decide ((y6,()).1≥b)) e)) else(Z138.j1 R N n a b c d false e)) else(bif (!c) then((chk (decide ((List.length e+List.length [b])*8≤70368744177664))).bind fun _=>some ⟨o_Z138,((e++[b]),())⟩) else some ⟨o_Z138,(e,())⟩)):=(hw _ _).trans (by kernel_rfl)
theorem Z138.ev(R:Run)(N:Nat)(a0:List Int)(a1:Int):qsp E R sg_Z138 pol_Z138 F_Z138 N [⟨yL,a0⟩,⟨yI,a1⟩]=(Z138.l0 R N N a0 a1 false (0:Int) ([]:List Int)):=by kernel_rfl
def Z160.l0(R:Run)(N n:Nat)(a:Int)(b:List Int)(e:Int)(f:List Int)(g h:Int):Option Dv:=R.w (some ⟨(.c (.box 24 0)::(.c (.d yI a)::(zd 5 (.c (.d yL b)::(.c (.d yI e)::(zd 15 [])))))),(zo 24 (some (.box [.d (.sl (.int .u8)) f,.d yI g,.d (.int .u64) h] false true)::(none::(none::[]))))⟩) fun st=>lC R pol_Z160 3 N [1,1,0,1,0,0] F_Z160 n st (kB R pol_Z160 0 (kS R pol_Z160 6 N [1,1,1] F_Z160 (qsX E sg_Z160 F_Z160)))
theorem Z160.l0_succ(R:Run)(hw:R.ok)(N n:Nat)(a:Int)(b:List Int)(c:Int)(d:List Int)(e f:Int):Z160.l0 R N (n+1) a b c d e f=(bif (decide (c>(0:Int))) then((qcx R n_Z144 o_Z144 [⟨(.ptr yR),(d,e,f,())⟩,⟨yI,a⟩]).bind fun r8=>((qcx R n_Z138 o_Z138 [⟨yL,b⟩,⟨yI,r8.1⟩]).bind fun r9=>(Z160.l0 R N n a r9.1 (w64 (c-(1:Int))) r8.2.1.1 r8.2.1.2.1 r8.2.1.2.2.1))) else some ⟨o_Z160,(b,(d,e,f,()),())⟩):=(hw _ _).trans (by kernel_rfl)
theorem Z160.ev(R:Run)(N:Nat)(a0:((List Int)×Int×Int×Unit))(a1 a2:Int):qsp E R sg_Z160 pol_Z160 F_Z160 N [⟨(.ptr yR),a0⟩,⟨yI,a1⟩,⟨yI,a2⟩]=((qcx R n_Z144 o_Z144 [⟨(.ptr yR),(a0.1,a0.2.1,a0.2.2.1,())⟩,⟨yI,a2⟩]).bind fun r1=>(Z160.l0 R N N a1 ([]:List Int) (w64 ((1:Int)+r1.1)) r1.2.1.1 r1.2.1.2.1 r1.2.1.2.2.1)):=by kernel_rfl
def Z176.l0(R:Run)(N n:Nat)(a:Int)(b:vK)(e:List Int)(f g:Int):Option Dv:=R.w (some ⟨(.c (.box 51 0)::(V.dead::(.c (.box 2 0)::(.c (.arr 37)::(.c (.d yI a)::(zd 46 [])))))),(none::(none::(some (.box [.nils yL] false false)::(zo 34 (some (.arr yL b false false false)::(zo 13 (some (.box [.d (.sl (.int .u8)) e,.d yI f,.d (.int .u64) g] false true)::[])))))))⟩) fun st=>lC R pol_Z176 12 N [1,1,1,0,1,0,0] F_Z176 n st (kB R pol_Z176 1 (kS R pol_Z176 15 N [1,1,1,1] F_Z176 (qsX E sg_Z176 F_Z176)))
theorem Z176.l0_succ(R:Run)(hw:R.ok)(N n:Nat)(a:Int)(b:vK)(c:List Int)(d e:Int):Z176.l0 R N (n+1) a b c d e=(bif (decide (a>(0:Int))) then((qcx R n_Z160 o_Z160 [⟨(.ptr yR),(c,d,e,())⟩,⟨yI,(5:Int)⟩,⟨yI,(3:Int)⟩]).bind fun r12=>((chk (decide ((List.length b+List.length [r12.1])*24≤70368744177664))).bind fun _=>(Z176.l0 R N n (w64 (a-(1:Int))) (b++[r12.1]) r12.2.1.1 r12.2.1.2.1 r12.2.1.2.2.1))) else((qcx R n_Z158 o_Z158 [⟨yK,b⟩]).bind fun r18=>some ⟨o_Z176,(r18.1,(c,d,e,()),())⟩)):=(hw _ _).trans (by kernel_rfl)
theorem Z176.ev(R:Run)(N:Nat)(a0:((List Int)×Int×Int×Unit)):qsp E R sg_Z176 pol_Z176 F_Z176 N [⟨(.ptr yR),a0⟩]=((qcx R n_Z144 o_Z144 [⟨(.ptr yR),(a0.1,a0.2.1,a0.2.2.1,())⟩,⟨yI,(6:Int)⟩]).bind fun r1=>(bif (r1.1==(0:Int)) then((qcx R n_Z158 o_Z158 [⟨yK,[[(0:Int),(1:Int)],[(1:Int),(2:Int)],[(0:Int),(2:Int)]]⟩]).bind fun r2=>some ⟨o_Z176,(r2.1,(r1.2.1.1,r1.2.1.2.1,r1.2.1.2.2.1,()),())⟩) else(bif (r1.1==(1:Int)) then((qcx R n_Z158 o_Z158 [⟨yK,[[(0:Int),(1:Int),(2:Int)],[(1:Int),(2:Int),(3:Int)]]⟩]).bind fun r3=>some ⟨o_Z176,(r3.1,(r1.2.1.1,r1.2.1.2.1,r1.2.1.2.2.1,()),())⟩) else(bif (r1.1==(2:Int)) then((qcx R n_Z158 o_Z158 [⟨yK,[[(0:Int),(1:Int),(2:Int)],[(0:Int),(1:Int),(3:Int)],[(0:Int),(2:Int),(3:Int)],[(1:Int),(2:Int),(3:Int)]]⟩]).bind fun r4=>some ⟨o_Z176,(r4.1,(r1.2.1.1,r1.2.1.2.1,r1.2.1.2.2.1,()),())⟩) else(bif (r1.1==(3:Int)) then((qcx R n_Z158 o_Z158 [⟨yK,[[(0:Int),(1:Int)],[(1:Int),(2:Int)],[(2:Int),(3:Int)],[(0:Int),(3:Int)],[(1:Int),(3:Int)]]⟩]).bind fun r5=>some ⟨o_Z176,(r5.1,(r1.2.1.1,r1.2.1.2.1,r1.2.1.2.2.1,()),())⟩) else((qcx R n_Z144 o_Z144 [⟨(.ptr yR),(r1.2.1.1,r1.2.1.2.1,r1.2.1.2.2.1,())⟩,⟨yI,(4:Int)⟩]).bind fun r6=>(Z176.l0 R N N r6.1 ([]:List (List Int)) r6.2.1.1 r6.2.1.2.1 r6.2.1.2.2.1))))))):=by kernel_rfl
theorem Z141.ev(R:Run)(N:Nat)(a0:((List Int)×Int×Int×Unit))(a1:List Int):qsp E R sg_Z141 pol_Z141 F_Z141 N [⟨(.ptr yR),a0⟩,⟨yL,a1⟩]=((qcx R n_Z144 o_Z144 [⟨(.ptr yR),(a0.1,a0.2.1,a0.2.2.1,())⟩,⟨yI,(List.length a1:Int)⟩]).bind fun r1=>((idx? a1 r1.1).bind fun y2=>some ⟨o_Z141,((y2,()).1,(r1.2.1.1,r1.2.1.2.1,r1.2.1.2.2.1,()),())⟩)):=by kernel_rfl
def Z168.l0(R:Run)(N n:Nat)(a:(vK×Unit))(b e:Int)(f:vK):Option Dv:=R.w (some ⟨(.c (.ip yC a 0)::(.c (.d yI b)::(V.dead::(V.dead::(.c (.box 4 0)::(.c (.box 5 0)::(.c (.d yI e)::(zd 36 [])))))))),(zo 4 (some (.box [.nils yL] false false)::(some (.box [.arr 7] false false)::(none::(some (.arr yL f true false false)::(zo 38 []))))))⟩) fun st=>lC R pol_Z168 3 N [1,1,0,1,0,0] F_Z168 n st (kB R pol_Z168 0 (kS R pol_Z168 7 N [1,1,1] F_Z168 (qsX E sg_Z168 F_Z168)))
theorem Z168.l0_succ(R:Run)(hw:R.ok)(N n:Nat)(a:(vK×Unit))(b c:Int)(d:vK):Z168.l0 R N (n+1) a b c d=(bif (decide (c<(List.length a.1:Int))) then((idx? a.1 c).bind fun y5=>(bif (decide ((List.length (y5,()).1:Int)≤(w64 (b+(1:Int))))) then((idx? a.1 c).bind fun y6=>((qcx R n_Z137 o_Z137 [⟨yL,(y6,()).1⟩]).bind fun r7=>((chk (decide ((List.length d+List.length [r7.1])*24≤70368744177664))).bind fun _=>(Z168.l0 R N n a b (w64 (c+(1:Int))) (d++[r7.1]))))) else(Z168.l0 R N n a b (w64 (c+(1:Int))) d))) else some ⟨o_Z168,(d,())⟩):=(hw _ _).trans (by kernel_rfl)
theorem Z168.ev(R:Run)(N:Nat)(a0:(vK×Unit))(a1:Int):qsp E R sg_Z168 pol_Z168 F_Z168 N [⟨(.ptr yC),a0⟩,⟨yI,a1⟩]=(Z168.l0 R N N a0 a1 (0:Int) ([]:List (List Int))):=by kernel_rfl
def Z162.j1(R:Run)(N a:Nat)(b:(vK×Unit))(e:List Int)(f:Int)(g:Bool)(h:List Int):Option Dv:=R.w (some ⟨(.c (.ip yC b 0)::(zd 4 (.c (.d yL e)::(.c (.arr 15)::(.c (.d yI f)::(zd 16 (.c (.d .bool g)::(zd 11 [])))))))),(zo 15 (some (.arr yI h true false false)::(zo 22 [])))⟩) fun st=>eC R pol_Z162 N [1,1,1,0,1,0,0,0,1] F_Z162 st (kS R pol_Z162 6 N [1,1,1,0,1,0,0,1] F_Z162 (kL R pol_Z162 4 N [1,1,1,0,1,0,0] F_Z162 a (kB R pol_Z162 0 (kS R pol_Z162 7 N [1,1,1,1] F_Z162 (qsX E sg_Z162 F_Z162)))))
def Z162.l0(R:Run)(N n:Nat)(a:(vK×Unit))(b:List Int)(e:Int)(f:List Int):Option Dv:=R.w (some ⟨(.c (.ip yC a 0)::(zd 4 (.c (.d yL b)::(.c (.arr 15)::(.c (.d yI e)::(zd 28 [])))))),(zo 15 (some (.arr yI f true false false)::(zo 22 [])))⟩) fun st=>lC R pol_Z162 4 N [1,1,1,0,1,0,0] F_Z162 n st (kB R pol_Z162 0 (kS R pol_Z162 7 N [1,1,1,1] F_Z162 (qsX E sg_Z162 F_Z162)))
theorem Z162.j1_eq(R:Run)(hw:R.ok)(N a:Nat)(b:(vK×Unit))(c:List Int)(d:Int)(e:Bool)(f:List Int):Z162.j1 R N a b c d e f=(bif e then((qcx R n_Z161 o_Z161 [⟨yL,c⟩,⟨yI,d⟩]).bind fun r11=>((qcx R n_Z163 o_Z163 [⟨(.ptr yC),b⟩,⟨yL,r11.1⟩]).bind fun r12=>((chk (decide ((List.length f+List.length [r12.1])*8≤70368744177664))).bind fun _=>(Z162.l0 R N a b c (w64 (d+(1:Int))) (f++[r12.1]))))) else some ⟨o_Z162,(f,())⟩):=(hw _ _).trans (by kernel_rfl)
theorem Z162.l0_succ(R:Run)(hw:R.ok)(N n:Nat)(a:(vK×Unit))(b:List Int)(c:Int)(d:List Int):Z162.l0 R N (n+1) a b c d=(bif (decide (c<(List.length b:Int))) then(Z162.j1 R N n a b c (decide ((List.length b:Int)>(1:Int))) d) else(Z162.j1 R N n a b c false d)):=(hw _ _).trans (by kernel_rfl)
theorem Z162.ev(R:Run)(N:Nat)(a0:(vK×Unit))(a1:Int):qsp E R sg_Z162 pol_Z162 F_Z162 N [⟨(.ptr yC),a0⟩,⟨yI,a1⟩]=((idx? a0.1 a1).bind fun y1=>(Z162.l0 R N N a0 ((y1,()).1) (0:Int) ([]:List Int))):=by kernel_rfl
theorem Z156.ev(R:Run)(N:Nat)(a0 a1 a2:Int):qsp E R sg_Z156 pol_Z156 F_Z156 N [⟨yI,a0⟩,⟨yI,a1⟩,⟨yI,a2⟩]=((chk (decide (0≤(w64 (a1*a2)))&&decide ((w64 (a1*a2))*8≤70368744177664))).bind fun _=>some ⟨o_Z156,(a0,a1,a2,(List.replicate (Int.toNat (w64 (a1*a2))) (0:Int)),())⟩):=by kernel_rfl
def Z180.l1(R:Run)(N a n:Nat)(b:(vK×Unit))(e:Int)(f:List Int)(g:Int)(h:List Int)(i j k:Int)(l:vN)(m:vK)(o:List Int):Option Dv:=R.w (some ⟨(.c (.ip yC b 0)::(.c (.d yI e)::(.c (.d yL f)::(zd 3 (.c (.box 6 0)::(.c (.box 7 0)::(.c (.d yI g)::(.c (.d yL h)::(.c (.d yI i)::(zd 44 [])))))))))),(zo 6 (some (.box [.nils yL,.d yI j,.nils yI,.nils (.st yM)] false false)::(some (.box [.arr 59,.d yI k,.arr 60,.arr 16] false false)::(zo 8 (some (.arr (.st yM) l true false false)::(zo 42 (some (.arr yL m true false false)::(some (.arr yI o true false false)::[]))))))))⟩) fun st=>lC R pol_Z180 7 N [1,1,0,1,0,0,1,0,0,1,1,0,0] F_Z180 n st (kB R pol_Z180 2 (kB R pol_Z180 1 (kS R pol_Z180 4 N [1,1,0,1,0,0,1,1] F_Z180 (kL R pol_Z180 3 N [1,1,0,1,0,0] F_Z180 a (kB R pol_Z180 0 (kS R pol_Z180 10 N [1,1,1] F_Z180 (qsX E sg_Z180 F_Z180)))))))
def Z180.l0(R:Run)(N n:Nat)(a:(vK×Unit))(b:Int)(e:List Int)(f g h:Int)(i:vN)(j:vK)(k:List Int):Option Dv:=R.w (some ⟨(.c (.ip yC a 0)::(.c (.d yI b)::(.c (.d yL e)::(zd 3 (.c (.box 6 0)::(.c (.box 7 0)::(.c (.d yI f)::(zd 46 [])))))))),(zo 6 (some (.box [.nils yL,.d yI g,.nils yI,.nils (.st yM)] false false)::(some (.box [.arr 59,.d yI h,.arr 60,.arr 16] false false)::(zo 8 (some (.arr (.st yM) i true false false)::(zo 42 (some (.arr yL j true false false)::(some (.arr yI k true false false)::[]))))))))⟩) fun st=>lC R pol_Z180 3 N [1,1,0,1,0,0] F_Z180 n st (kB R pol_Z180 0 (kS R pol_Z180 10 N [1,1,1] F_Z180 (qsX E sg_Z180 F_Z180)))
theorem Z180.l1_succ(R:Run)(hw:R.ok)(N a n:Nat)(b:(vK×Unit))(c:Int)(d:List Int)(e:Int)(f:List Int)(g h i:Int)(j:vN)(k:vK)(l:List Int):Z180.l1 R N a (n+1) b c d e f g h i j k l=(bif (decide (g<(List.length f:Int))) then((idx? d e).bind fun y24=>((idx? f g).bind fun y25=>((idx? d (y25,()).1).bind fun y26=>((qcx R n_Z156 o_Z156 [⟨yI,c⟩,⟨yI,(y24,()).1⟩,⟨yI,(y26,()).1⟩]).bind fun r27=>((chk (decide ((List.length j+List.length [(r27.1,r27.2.1,r27.2.2.1,r27.2.2.2.1,())])*48≤70368744177664))).bind fun _=>(Z180.l1 R N a n b c d e f (w64 (g+(1:Int))) h i (j++[(r27.1,r27.2.1,r27.2.2.1,r27.2.2.2.1,())]) k l)))))) else(Z180.l0 R N a b c d (w64 (e+(1:Int))) h i j k l)):=(hw _ _).trans (by kernel_rfl)
theorem Z180.l0_succ(R:Run)(hw:R.ok)(N n:Nat)(a:(vK×Unit))(b:Int)(c:List Int)(d e f:Int)(g:vN)(h:vK)(i:List Int):Z180.l0 R N (n+1) a b c d e f g h i=(bif (decide (d<(List.length a.1:Int))) then((qcx R n_Z162 o_Z162 [⟨(.ptr yC),a⟩,⟨yI,d⟩]).bind fun r12=>(Z180.l1 R N n N a b c d r12.1 (0:Int) e f g h i)) else some ⟨o_Z180,(h,f,i,g,())⟩):=(hw _ _).trans (by kernel_rfl)
theorem Z180.ev(R:Run)(N:Nat)(a0:(vK×Unit))(a1:Int)(a2:List Int):qsp E R sg_Z180 pol_Z180 F_Z180 N [⟨(.ptr yC),a0⟩,⟨yI,a1⟩,⟨yL,a2⟩]=((qcx R n_Z168 o_Z168 [⟨(.ptr yC),a0⟩,⟨yI,(3:Int)⟩]).bind fun r1=>((qcx R n_Z137 o_Z137 [⟨yL,a2⟩]).bind fun r2=>(Z180.l0 R N N a0 a1 a2 (0:Int) (0:Int) a1 ([]:List vM) r1.1 r2.1))):=by kernel_rfl
def Z155.l0(R:Run)(N n:Nat)(a b e f g h i j:Int)(k:List Int):Option Dv:=R.w (some ⟨(V.dead::(.c (.d yI a)::(V.dead::(V.dead::(.c (.box 4 0)::(.c (.box 5 0)::(.c (.d yI b)::(zd 18 [])))))))),(zo 4 (some (.box [.d yI e,.d yI f,.d yI g,.nils yI] false false)::(some (.box [.d yI h,.d yI i,.d yI j,.arr 27] false false)::(zo 21 (some (.arr yI k true false false)::[])))))⟩) fun st=>lC R pol_Z155 3 N [1,1,0,1,0,0] F_Z155 n st (kB R pol_Z155 0 (kS R pol_Z155 6 N [1,1,1] F_Z155 (qsX E sg_Z155 F_Z155)))
theorem Z155.l0_succ(R:Run)(hw:R.ok)(N n:Nat)(a b c d e f g h:Int)(i:List Int):Z155.l0 R N (n+1) a b c d e f g h i=(bif (decide (b<a)) then((chk (decide (0≤(w64 ((w64 (b*a))+b)))&&decide ((w64 ((w64 (b*a))+b))<(List.length i:Int)))).bind fun _=>(Z155.l0 R N n a (w64 (b+(1:Int))) c d e f g h (List.set i (Int.toNat (w64 ((w64 (b*a))+b))) (1:Int)))) else some ⟨o_Z155,(f,g,h,i,())⟩):=(hw _ _).trans (by kernel_rfl)
theorem Z155.ev(R:Run)(N:Nat)(a0 a1:Int):qsp E R sg_Z155 pol_Z155 F_Z155 N [⟨yI,a0⟩,⟨yI,a1⟩]=((qcx R n_Z156 o_Z156 [⟨yI,a0⟩,⟨yI,a1⟩,⟨yI,a1⟩]).bind fun r1=>(Z155.l0 R N N a1 (0:Int) (0:Int) (0:Int) (0:Int) r1.1 r1.2.1 r1.2.2.1 r1.2.2.2.1)):=by kernel_rfl
def Z174.l1(R:Run)(N n:Nat)(a b e f g:Int)(h:vN)(i:vK)(j:List Int):Option Dv:=R.w (some ⟨(V.dead::(.c (.d yI a)::(.c (.d yI b)::(zd 3 (.c (.box 6 0)::(V.dead::(V.dead::(.c (.box 9 0)::(.c (.d yI e)::(zd 33 [])))))))))),(zo 6 (some (.box [.nils yL,.d yI f,.nils yI,.nils (.st yM)] false false)::(none::(none::(some (.box [.arr 49,.d yI g,.arr 50,.arr 47] false false)::(zo 37 (some (.arr (.st yM) h true false false)::(none::(some (.arr yL i true false false)::(some (.arr yI j true false false)::[]))))))))))⟩) fun st=>lC R pol_Z174 8 N [1,1,1,1,0,1,0,0] F_Z174 n st (kB R pol_Z174 2 (kS R pol_Z174 11 N [1,1,1,1,1] F_Z174 (qsX E sg_Z174 F_Z174)))
def Z174.l0(R:Run)(N n:Nat)(a:(vK×Unit))(b e f g:Int)(h:List Int):Option Dv:=R.w (some ⟨(.c (.ip yC a 0)::(.c (.d yI b)::(.c (.d yI e)::(zd 3 (.c (.box 6 0)::(.c (.arr 11)::(.c (.d yI f)::(zd 35 [])))))))),(zo 6 (some (.box [.nils yL,.d yI g,.nils yI,.nils (.st yM)] false false)::(zo 4 (some (.arr yI h true false false)::(zo 39 [])))))⟩) fun st=>lC R pol_Z174 3 N [1,1,0,1,0,0] F_Z174 n st (kB R pol_Z174 0 (kS R pol_Z174 6 N [1,1,1] F_Z174 (qsX E sg_Z174 F_Z174)))
theorem Z174.l1_succ(R:Run)(hw:R.ok)(N n:Nat)(a b c d e:Int)(f:vN)(g:vK)(h:List Int):Z174.l1 R N (n+1) a b c d e f g h=(bif (decide (c<(List.length f:Int))) then((qcx R n_Z155 o_Z155 [⟨yI,a⟩,⟨yI,b⟩]).bind fun r22=>((chk (decide (0≤c)&&decide (c<(List.length f:Int)))).bind fun _=>(Z174.l1 R N n a b (w64 (c+(1:Int))) d e (List.set f (Int.toNat c) (r22.1,r22.2.1,r22.2.2.1,r22.2.2.2.1,())) g h))) else some ⟨o_Z174,(g,e,h,f,())⟩):=(hw _ _).trans (by kernel_rfl)
theorem Z174.l0_succ(R:Run)(hw:R.ok)(N n:Nat)(a:(vK×Unit))(b c d e:Int)(f:List Int):Z174.l0 R N (n+1) a b c d e f=(bif (decide (d<(List.length a.1:Int))) then((chk (decide ((List.length f+List.length [c])*8≤70368744177664))).bind fun _=>(Z174.l0 R N n a b c (w64 (d+(1:Int))) e (f++[c]))) else((qcx R n_Z180 o_Z180 [⟨(.ptr yC),a⟩,⟨yI,b⟩,⟨yL,f⟩]).bind fun r13=>(Z174.l1 R N N b c (0:Int) e r13.2.1 r13.2.2.2.1 r13.1 r13.2.2.1))):=(hw _ _).trans (by kernel_rfl)
theorem Z174.ev(R:Run)(N:Nat)(a0:(vK×Unit))(a1 a2:Int):qsp E R sg_Z174 pol_Z174 F_Z174 N [⟨(.ptr yC),a0⟩,⟨yI,a1⟩,⟨yI,a2⟩]=(Z174.l0 R N N a0 a1 a2 (0:Int) (0:Int) ([]:List Int)):=by kernel_rfl
theorem Z143.ev(R:Run)(N:Nat)(a0:((List Int)×Int×Int×Unit))(a1:Int):qsp E R sg_Z143 pol_Z143 F_Z143 N [⟨(.ptr yR),a0⟩,⟨yI,a1⟩]=((qcx R n_Z144 o_Z144 [⟨(.ptr yR),(a0.1,a0.2.1,a0.2.2.1,())⟩,⟨yI,a1⟩]).bind fun r1=>some ⟨o_Z143,((r1.1==(0:Int)),(r1.2.1.1,r1.2.1.2.1,r1.2.1.2.2.1,()),())⟩):=by kernel_rfl
def Z147.j3(R:Run)(N:Nat)(a b e f g h:Int)(i:List Int)(j k:Int)(l:List Int):Option Dv:=R.w (some ⟨(zd 8 (.c (.box 8 0)::(.c (.box 9 0)::(zd 52 [])))),(zo 8 (some (.box [.d yI a,.d yI b,.d yI e,.nils yI] false false)::(some (.box [.d yI f,.d yI g,.d yI h,.arr 66] false false)::(zo 52 (some (.box [.d (.sl (.int .u8)) i,.d yI j,.d (.int .u64) k] false true)::(zo 3 (some (.arr yI l true false false)::[])))))))⟩) fun st=>eC R pol_Z147 N [1,1,1,1] F_Z147 st (qsX E sg_Z147 F_Z147)
def Z147.l2(R:Run)(N n:Nat)(a b e f g h i j k l:Int)(m:List Int)(o p:Int)(q:List Int):Option Dv:=R.w (some ⟨(V.dead::(.c (.d yI a)::(.c (.d yI b)::(.c (.d yI e)::(zd 4 (.c (.box 8 0)::(.c (.box 9 0)::(V.dead::(.c (.d yI f)::(zd 50 [])))))))))),(zo 8 (some (.box [.d yI g,.d yI h,.d yI i,.nils yI] false false)::(some (.box [.d yI j,.d yI k,.d yI l,.arr 66] false false)::(zo 52 (some (.box [.d (.sl (.int .u8)) m,.d yI o,.d (.int .u64) p] false true)::(zo 3 (some (.arr yI q true false false)::[])))))))⟩) fun st=>lC R pol_Z147 9 N [1,1,1,0,1,0,1,0,0] F_Z147 n st (kB R pol_Z147 2 (kS R pol_Z147 12 N [1,1,1,1] F_Z147 (qsX E sg_Z147 F_Z147)))
def Z147.j1(R:Run)(N:Nat)(a b e:Int)(f:Bool)(g h i j k l:Int)(m:List Int)(o p:Int)(q:List Int):Option Dv:=R.w (some ⟨(V.dead::(.c (.d yI a)::(.c (.d yI b)::(.c (.d yI e)::(zd 4 (.c (.box 8 0)::(.c (.box 9 0)::(zd 28 (.c (.d .bool f)::(zd 23 [])))))))))),(zo 8 (some (.box [.d yI g,.d yI h,.d yI i,.nils yI] false false)::(some (.box [.d yI j,.d yI k,.d yI l,.arr 66] false false)::(zo 52 (some (.box [.d (.sl (.int .u8)) m,.d yI o,.d (.int .u64) p] false true)::(zo 3 (some (.arr yI q true false false)::[])))))))⟩) fun st=>eC R pol_Z147 N [1,1,1,0,1] F_Z147 st (kS R pol_Z147 12 N [1,1,1,1] F_Z147 (qsX E sg_Z147 F_Z147))
def Z147.l0(R:Run)(N n:Nat)(a b e f g h i j k l:Int)(m:List Int)(o p:Int)(q:List Int):Option Dv:=R.w (some ⟨(.c (.box 62 0)::(.c (.d yI a)::(.c (.d yI b)::(.c (.d yI e)::(zd 4 (.c (.box 8 0)::(.c (.box 9 0)::(.c (.d yI f)::(zd 51 []))))))))),(zo 8 (some (.box [.d yI g,.d yI h,.d yI i,.nils yI] false false)::(some (.box [.d yI j,.d yI k,.d yI l,.arr 66] false false)::(zo 52 (some (.box [.d (.sl (.int .u8)) m,.d yI o,.d (.int .u64) p] false true)::(zo 3 (some (.arr yI q true false false)::[])))))))⟩) fun st=>lC R pol_Z147 3 N [1,1,0,1,0,0] F_Z147 n st (kB R pol_Z147 0 (kS R pol_Z147 7 N [1,1,1] F_Z147 (qsX E sg_Z147 F_Z147)))
theorem Z147.j3_eq(R:Run)(hw:R.ok)(N:Nat)(a b c d e f:Int)(g:List Int)(h i:Int)(j:List Int):Z147.j3 R N a b c d e f g h i j=some ⟨o_Z147,(d,e,f,j,(g,h,i,()),())⟩:=(hw _ _).trans (by kernel_rfl)
theorem Z147.l2_succ(R:Run)(hw:R.ok)(N n:Nat)(a b c d e f g h i j:Int)(k:List Int)(l m:Int)(o:List Int):Z147.l2 R N (n+1) a b c d e f g h i j k l m o=(bif (decide (d<c)) then((chk (decide (0≤d)&&decide (d<(List.length o:Int)))).bind fun _=>(Option.bind (o)[(Int.toNat d)]? fun y75=>((chk (a != 0)).bind fun _=>((chk (decide (0≤(w64 ((w64 ((w64 (b-(1:Int)))*c))+d)))&&decide ((w64 ((w64 ((w64 (b-(1:Int)))*c))+d))<(List.length o:Int)))).bind fun _=>(Z147.l2 R N n a b c (w64 (d+(1:Int))) e f g h i j k l m (List.set o (Int.toNat (w64 ((w64 ((w64 (b-(1:Int)))*c))+d))) (Int.tmod (w64 (y75*(2:Int))) a))))))) else(Z147.j3 R N e f g h i j k l m o)):=(hw _ _).trans (by kernel_rfl)
theorem Z147.j1_eq(R:Run)(hw:R.ok)(N:Nat)(a b c:Int)(d:Bool)(e f g h i j:Int)(k:List Int)(l m:Int)(o:List Int):Z147.j1 R N a b c d e f g h i j k l m o=(bif d then(Z147.l2 R N N a b c (0:Int) e f g h i j k l m o) else(Z147.j3 R N e f g h i j k l m o)):=(hw _ _).trans (by kernel_rfl)
theorem Z147.l0_succ(R:Run)(hw:R.ok)(N n:Nat)(a b c d e f g h i j:Int)(k:List Int)(l m:Int)(o:List Int):Z147.l0 R N (n+1) a b c d e f g h i j k l m o=(bif (decide (d<(List.length o:Int))) then((qcx R n_Z144 o_Z144 [⟨(.ptr yR),(k,l,m,())⟩,⟨yI,(3:Int)⟩]).bind fun r16=>(bif (decide (r16.1>(0:Int))) then((qcx R n_Z144 o_Z144 [⟨(.ptr yR),(r16.2.1.1,r16.2.1.2.1,r16.2.1.2.2.1,())⟩,⟨yI,a⟩]).bind fun r17=>((chk (decide (0≤d)&&decide (d<(List.length o:Int)))).bind fun _=>(Z147.l0 R N n a b c (w64 (d+(1:Int))) e f g h i j r17.2.1.1 r17.2.1.2.1 r17.2.1.2.2.1 (List.set o (Int.toNat d) r17.1)))) else(Z147.l0 R N n a b c (w64 (d+(1:Int))) e f g h i j r16.2.1.1 r16.2.1.2.1 r16.2.1.2.2.1 o))) else(bif (decide (b>(1:Int))) then((qcx R n_Z143 o_Z143 [⟨(.ptr yR),(k,l,m,())⟩,⟨yI,(3:Int)⟩]).bind fun r46=>(Z147.j1 R N a b c r46.1 e f g h i j r46.2.1.1 r46.2.1.2.1 r46.2.1.2.2.1 o)) else(Z147.j1 R N a b c false e f g h i j k l m o))):=(hw _ _).trans (by kernel_rfl)
theorem Z147.ev(R:Run)(N:Nat)(a0:((List Int)×Int×Int×Unit))(a1 a2 a3:Int):qsp E R sg_Z147 pol_Z147 F_Z147 N [⟨(.ptr yR),a0⟩,⟨yI,a1⟩,⟨yI,a2⟩,⟨yI,a3⟩]=((qcx R n_Z156 o_Z156 [⟨yI,a1⟩,⟨yI,a2⟩,⟨yI,a3⟩]).bind fun r1=>(Z147.l0 R N N a1 a2 a3 (0:Int) (0:Int) (0:Int) (0:Int) r1.1 r1.2.1 r1.2.2.1 a0.1 a0.2.1 a0.2.2.1 r1.2.2.2.1)):=by kernel_rfl
def Z148.l0(R:Run)(N n:Nat)(a b e f:Int):Option Dv:=R.w (some ⟨(.c (.d yI a)::(.c (.d yI b)::(zd 3 (.c (.d yI e)::(.c (.d yI f)::(zd 12 [])))))),(zo 21 [])⟩) fun st=>lC R pol_Z148 3 N [1,1,0,1,0,0] F_Z148 n st (kB R pol_Z148 0 (kS R pol_Z148 6 N [1,1,1] F_Z148 (qsX E sg_Z148 F_Z148)))
theorem Z148.l0_succ(R:Run)(hw:R.ok)(N n:Nat)(a b c d:Int):Z148.l0 R N (n+1) a b c d=(bif (decide (d>(0:Int))) then((chk (b != 0)).bind fun _=>(Z148.l0 R N n a b (Int.tmod (w64 (c*a)) b) (w64 (d-(1:Int))))) else some ⟨o_Z148,(c,())⟩):=(hw _ _).trans (by kernel_rfl)
theorem Z148.ev(R:Run)(N:Nat)(a0 a1:Int):qsp E R sg_Z148 pol_Z148 F_Z148 N [⟨yI,a0⟩,⟨yI,a1⟩]=(Z148.l0 R N N a0 a1 (1:Int) (w64 (a1-(2:Int)))):=by kernel_rfl
theorem Z150.ev(R:Run)(N:Nat)(a0 a1:Int):qsp E R sg_Z150 pol_Z150 F_Z150 N [⟨yI,a0⟩,⟨yI,a1⟩]=((chk (a1 != 0)).bind fun _=>((chk (a1 != 0)).bind fun _=>some ⟨o_Z150,((Int.tmod (w64 ((Int.tmod a0 a1)+a1)) a1),())⟩)):=by kernel_rfl
def Z153.l10(R:Run)(N a b n:Nat)(e:vM)(f g h i j k l m o p q r s t:Int)(u v:List Int):Option Dv:=R.w (some ⟨(.c (.ip yM e 0)::(V.dead::(.c (.box 2 0)::(V.dead::(V.dead::(.c (.box 5 0)::(.c (.d yI f)::(.c (.d yI g)::(.c (.arr 47)::(.c (.d yI h)::(.c (.d yI i)::(.c (.d yI j)::(zd 6 (.c (.d yI k)::(.c (.d yI l)::(.c (.d yI m)::(zd 225 []))))))))))))))))),(none::(none::(some (.box [.d yI o,.d yI p,.d yI q,.nils yI] false false)::(none::(none::(some (.box [.d yI r,.d yI s,.d yI t,.arr 247] false false)::(zo 41 (some (.arr yI u true false false)::(zo 199 (some (.arr yI v true false false)::[]))))))))))⟩) fun st=>lC R pol_Z153 35 N [1,1,1,1,1,1,1,0,1,0,0,1,0,0,1,1,1,1,1,1,1,1,0,1,0,0,1,0,0,1,1,1,0,0] F_Z153 n st (kB R pol_Z153 10 (kB R pol_Z153 9 (q0_1 R N (q0_6 R N b (kB R pol_Z153 8 (q0_2 R N (q0_8 R (q0_3 R N (q0_7 R N a (q0_9 R (q0_4 R N (qsX E sg_Z153 F_Z153))))))))))))
def Z153.j9(R:Run)(N a b:Nat)(e:vM)(f g h i j k l:Int)(m:Bool)(o p q r s t:Int)(u v:List Int):Option Dv:=R.w (some ⟨(.c (.ip yM e 0)::(V.dead::(.c (.box 2 0)::(V.dead::(V.dead::(.c (.box 5 0)::(.c (.d yI f)::(.c (.d yI g)::(.c (.arr 47)::(.c (.d yI h)::(.c (.d yI i)::(.c (.d yI j)::(zd 6 (.c (.d yI k)::(.c (.d yI l)::(zd 180 (.c (.d .bool m)::(zd 45 [])))))))))))))))))),(none::(none::(some (.box [.d yI o,.d yI p,.d yI q,.nils yI] false false)::(none::(none::(some (.box [.d yI r,.d yI s,.d yI t,.arr 247] false false)::(zo 41 (some (.arr yI u true false false)::(zo 199 (some (.arr yI v true false false)::[]))))))))))⟩) fun st=>eC R pol_Z153 N [1,1,1,1,1,1,1,0,1,0,0,1,0,0,1,1,1,1,1,1,1,1,0,1,0,0,1,0,0,1,0,1] F_Z153 st (kS R pol_Z153 34 N [1,1,1,1,1,1,1,0,1,0,0,1,0,0,1,1,1,1,1,1,1,1,0,1,0,0,1,0,0,1,1] F_Z153 (kB R pol_Z153 9 (q0_1 R N (q0_6 R N b (kB R pol_Z153 8 (q0_2 R N (q0_8 R (q0_3 R N (q0_7 R N a (q0_9 R (q0_4 R N (qsX E sg_Z153 F_Z153))))))))))))
def Z153.l8(R:Run)(N a n:Nat)(b:vM)(e f g h i j k l m o p q:Int)(r s:List Int):Option Dv:=R.w (some ⟨(.c (.ip yM b 0)::(V.dead::(.c (.box 2 0)::(V.dead::(V.dead::(.c (.box 5 0)::(.c (.d yI e)::(.c (.d yI f)::(.c (.arr 47)::(.c (.d yI g)::(.c (.d yI h)::(.c (.d yI i)::(zd 6 (.c (.d yI j)::(zd 227 []))))))))))))))),(none::(none::(some (.box [.d yI k,.d yI l,.d yI m,.nils yI] false false)::(none::(none::(some (.box [.d yI o,.d yI p,.d yI q,.arr 247] false false)::(zo 41 (some (.arr yI r true false false)::(zo 199 (some (.arr yI s true false false)::[]))))))))))⟩) fun st=>lC R pol_Z153 30 N [1,1,1,1,1,1,1,0,1,0,0,1,0,0,1,1,1,1,1,1,1,1,0,1,0,0] F_Z153 n st (kB R pol_Z153 8 (q0_2 R N (q0_8 R (q0_3 R N (q0_7 R N a (q0_9 R (q0_4 R N (qsX E sg_Z153 F_Z153))))))))
def Z153.l7(R:Run)(N a n:Nat)(b:vM)(e f g h i j k l m o p q r:Int)(s t:List Int):Option Dv:=R.w (some ⟨(.c (.ip yM b 0)::(V.dead::(.c (.box 2 0)::(V.dead::(V.dead::(.c (.box 5 0)::(.c (.d yI e)::(.c (.d yI f)::(.c (.arr 47)::(.c (.d yI g)::(.c (.d yI h)::(.c (.d yI i)::(zd 4 (.c (.d yI j)::(.c (.d yI k)::(zd 228 [])))))))))))))))),(none::(none::(some (.box [.d yI l,.d yI m,.d yI o,.nils yI] false false)::(none::(none::(some (.box [.d yI p,.d yI q,.d yI r,.arr 247] false false)::(zo 41 (some (.arr yI s true false false)::(zo 199 (some (.arr yI t true false false)::[]))))))))))⟩) fun st=>lC R pol_Z153 26 N [1,1,1,1,1,1,1,0,1,0,0,1,0,0,1,1,1,1,1,1,1,0,1,0,0] F_Z153 n st (kB R pol_Z153 6 (kS R pol_Z153 29 N [1,1,1,1,1,1,1,0,1,0,0,1,0,0,1,1,1,1,1,1,1,1] F_Z153 (q0_8 R (q0_3 R N (q0_7 R N a (q0_9 R (q0_4 R N (qsX E sg_Z153 F_Z153))))))))
def Z153.j6(R:Run)(N a:Nat)(b:vM)(e f g h i j k l m o p:Int)(q r:List Int):Option Dv:=R.w (some ⟨(.c (.ip yM b 0)::(V.dead::(.c (.box 2 0)::(V.dead::(V.dead::(.c (.box 5 0)::(.c (.d yI e)::(.c (.d yI f)::(.c (.arr 47)::(.c (.d yI g)::(.c (.d yI h)::(.c (.d yI i)::(zd 234 []))))))))))))),(none::(none::(some (.box [.d yI j,.d yI k,.d yI l,.nils yI] false false)::(none::(none::(some (.box [.d yI m,.d yI o,.d yI p,.arr 247] false false)::(zo 41 (some (.arr yI q true false false)::(zo 199 (some (.arr yI r true false false)::[]))))))))))⟩) fun st=>eC R pol_Z153 N [1,1,1,1,1,1,1,0,1,0,0,1,0,0,1,1,1,1] F_Z153 st (q0_8 R (q0_3 R N (q0_7 R N a (q0_9 R (q0_4 R N (qsX E sg_Z153 F_Z153))))))
def Z153.l5(R:Run)(N a n:Nat)(b:vM)(e f g h i j k l m o p q r:Int)(s t:List Int):Option Dv:=R.w (some ⟨(.c (.ip yM b 0)::(V.dead::(.c (.box 2 0)::(V.dead::(V.dead::(.c (.box 5 0)::(.c (.d yI e)::(.c (.d yI f)::(.c (.arr 47)::(.c (.d yI g)::(.c (.d yI h)::(.c (.d yI i)::(.c (.d yI j)::(.c (.d yI k)::(zd 232 []))))))))))))))),(none::(none::(some (.box [.d yI l,.d yI m,.d yI o,.nils yI] false false)::(none::(none::(some (.box [.d yI p,.d yI q,.d yI r,.arr 247] false false)::(zo 41 (some (.arr yI s true false false)::(zo 199 (some (.arr yI t true false false)::[]))))))))))⟩) fun st=>lC R pol_Z153 17 N [1,1,1,1,1,1,1,0,1,0,0,1,0,0,1,1,1,0,1,0,1,1,0,0] F_Z153 n st (kB R pol_Z153 4 (kS R pol_Z153 22 N [1,1,1,1,1,1,1,0,1,0,0,1,0,0,1,1,1,1] F_Z153 (q0_8 R (q0_3 R N (q0_7 R N a (q0_9 R (q0_4 R N (qsX E sg_Z153 F_Z153))))))))
def Z153.j4(R:Run)(N a b:Nat)(e:vM)(f g h i j k:Int)(l:Bool)(m o p q r s:Int)(t u:List Int):Option Dv:=R.w (some ⟨(.c (.ip yM e 0)::(V.dead::(.c (.box 2 0)::(V.dead::(V.dead::(.c (.box 5 0)::(.c (.d yI f)::(.c (.d yI g)::(.c (.arr 47)::(.c (.d yI h)::(.c (.d yI i)::(.c (.d yI j)::(.c (.d yI k)::(zd 66 (.c (.d .bool l)::(zd 166 [])))))))))))))))),(none::(none::(some (.box [.d yI m,.d yI o,.d yI p,.nils yI] false false)::(none::(none::(some (.box [.d yI q,.d yI r,.d yI s,.arr 247] false false)::(zo 41 (some (.arr yI t true false false)::(zo 199 (some (.arr yI u true false false)::[]))))))))))⟩) fun st=>eC R pol_Z153 N [1,1,1,1,1,1,1,0,1,0,0,1,0,0,1,0,0,0,0,1] F_Z153 st (kS R pol_Z153 12 N [1,1,1,1,1,1,1,0,1,0,0,1,0,0,1,0,0,0,1] F_Z153 (kL R pol_Z153 11 N [1,1,1,1,1,1,1,0,1,0,0,1,0,0,1,0,0,0] F_Z153 b (kB R pol_Z153 2 (q0_5 R N (q0_8 R (q0_3 R N (q0_7 R N a (q0_9 R (q0_4 R N (qsX E sg_Z153 F_Z153))))))))))
def Z153.l3(R:Run)(N a n:Nat)(b:vM)(e f g h i j k l m o p q:Int)(r s:List Int):Option Dv:=R.w (some ⟨(.c (.ip yM b 0)::(V.dead::(.c (.box 2 0)::(V.dead::(V.dead::(.c (.box 5 0)::(.c (.d yI e)::(.c (.d yI f)::(.c (.arr 47)::(.c (.d yI g)::(.c (.d yI h)::(.c (.d yI i)::(.c (.d yI j)::(zd 233 [])))))))))))))),(none::(none::(some (.box [.d yI k,.d yI l,.d yI m,.nils yI] false false)::(none::(none::(some (.box [.d yI o,.d yI p,.d yI q,.arr 247] false false)::(zo 41 (some (.arr yI r true false false)::(zo 199 (some (.arr yI s true false false)::[]))))))))))⟩) fun st=>lC R pol_Z153 11 N [1,1,1,1,1,1,1,0,1,0,0,1,0,0,1,0,0,0] F_Z153 n st (kB R pol_Z153 2 (q0_5 R N (q0_8 R (q0_3 R N (q0_7 R N a (q0_9 R (q0_4 R N (qsX E sg_Z153 F_Z153))))))))
def Z153.j2(R:Run)(N a:Nat)(b:vM)(e f g h i:Int)(j:Bool)(k l m o p q:Int)(r s:List Int):Option Dv:=R.w (some ⟨(.c (.ip yM b 0)::(V.dead::(.c (.box 2 0)::(V.dead::(V.dead::(.c (.box 5 0)::(.c (.d yI e)::(.c (.d yI f)::(.c (.arr 47)::(.c (.d yI g)::(.c (.d yI h)::(.c (.d yI i)::(zd 46 (.c (.d .bool j)::(zd 187 []))))))))))))))),(none::(none::(some (.box [.d yI k,.d yI l,.d yI m,.nils yI] false false)::(none::(none::(some (.box [.d yI o,.d yI p,.d yI q,.arr 247] false false)::(zo 41 (some (.arr yI r true false false)::(zo 199 (some (.arr yI s true false false)::[]))))))))))⟩) fun st=>eC R pol_Z153 N [1,1,1,1,1,1,1,0,1,0,0,0,1] F_Z153 st (kS R pol_Z153 10 N [1,1,1,1,1,1,1,0,1,0,0,1] F_Z153 (q0_7 R N a (q0_9 R (q0_4 R N (qsX E sg_Z153 F_Z153)))))
def Z153.l1(R:Run)(N n:Nat)(a:vM)(b e f g h i j k l m o:Int)(p q:List Int):Option Dv:=R.w (some ⟨(.c (.ip yM a 0)::(V.dead::(.c (.box 2 0)::(V.dead::(V.dead::(.c (.box 5 0)::(.c (.d yI b)::(.c (.d yI e)::(.c (.arr 47)::(.c (.d yI f)::(.c (.d yI g)::(.c (.d yI h)::(zd 234 []))))))))))))),(none::(none::(some (.box [.d yI i,.d yI j,.d yI k,.nils yI] false false)::(none::(none::(some (.box [.d yI l,.d yI m,.d yI o,.arr 247] false false)::(zo 41 (some (.arr yI p true false false)::(zo 199 (some (.arr yI q true false false)::[]))))))))))⟩) fun st=>lC R pol_Z153 8 N [1,1,1,1,1,1,1,0,1,0,0] F_Z153 n st (q0_9 R (q0_4 R N (qsX E sg_Z153 F_Z153)))
def Z153.j0(R:Run)(N:Nat)(a:vM)(b e f g h i:Int)(j:List Int):Option Dv:=R.w (some ⟨(.c (.ip yM a 0)::(V.dead::(.c (.box 2 0)::(V.dead::(V.dead::(.c (.box 5 0)::(zd 240 []))))))),(none::(none::(some (.box [.d yI b,.d yI e,.d yI f,.nils yI] false false)::(none::(none::(some (.box [.d yI g,.d yI h,.d yI i,.arr 247] false false)::(zo 241 (some (.arr yI j true false false)::[]))))))))⟩) fun st=>eC R pol_Z153 N [1,1] F_Z153 st (qsX E sg_Z153 F_Z153)
theorem Z153.l10_succ(R:Run)(hw:R.ok)(N a b n:Nat)(c:vM)(d e f g h i j k l m o p q r:Int)(s t:List Int):Z153.l10 R N a b (n+1) c d e f g h i j k l m o p q r s t=(bif (decide (k<e)) then((chk (decide (0≤(w64 ((w64 (i*e))+k)))&&decide ((w64 ((w64 (i*e))+k))<(List.length t:Int)))).bind fun _=>(Option.bind (t)[(Int.toNat (w64 ((w64 (i*e))+k)))]? fun y248=>((chk (decide (0≤(w64 ((w64 (g*e))+k)))&&decide ((w64 ((w64 (g*e))+k))<(List.length t:Int)))).bind fun _=>(Option.bind (t)[(Int.toNat (w64 ((w64 (g*e))+k)))]? fun y249=>((qcx R n_Z150 o_Z150 [⟨yI,(w64 (y248-(w64 (j*y249))))⟩,⟨yI,d⟩]).bind fun r250=>((chk (decide (0≤(w64 ((w64 (i*e))+k)))&&decide ((w64 ((w64 (i*e))+k))<(List.length t:Int)))).bind fun _=>(Z153.l10 R N a b n c d e f g h i j (w64 (k+(1:Int))) l m o p q r s (List.set t (Int.toNat (w64 ((w64 (i*e))+k))) r250.1)))))))) else(Z153.l8 R N a b c d e f g h (w64 (i+(1:Int))) l m o p q r s t)):=(hw _ _).trans (by kernel_rfl)
theorem Z153.j9_eq(R:Run)(hw:R.ok)(N a b:Nat)(c:vM)(d e f g h i j:Int)(k:Bool)(l m o p q r:Int)(s t:List Int):Z153.j9 R N a b c d e f g h i j k l m o p q r s t=(bif k then(Z153.l8 R N a b c d e f g h (w64 (i+(1:Int))) l m o p q r s t) else(Z153.l10 R N a b N c d e f g h i j (0:Int) l m o p q r s t)):=(hw _ _).trans (by kernel_rfl)
theorem Z153.l8_succ(R:Run)(hw:R.ok)(N a n:Nat)(b:vM)(c d e f g h i j k l m o:Int)(p q:List Int):Z153.l8 R N a (n+1) b c d e f g h i j k l m o p q=(bif (decide (h<b.2.1)) then((chk (decide (0≤(w64 ((w64 (h*d))+g)))&&decide ((w64 ((w64 (h*d))+g))<(List.length q:Int)))).bind fun _=>(Option.bind (q)[(Int.toNat (w64 ((w64 (h*d))+g)))]? fun y198=>(bif (h==f) then(Z153.j9 R N a n b c d e f g h y198 true i j k l m o p q) else(Z153.j9 R N a n b c d e f g h y198 (y198==(0:Int)) i j k l m o p q)))) else((chk (decide ((List.length p+List.length [g])*8≤70368744177664))).bind fun _=>(Z153.l1 R N a b c d e (w64 (f+(1:Int))) (w64 (g+(1:Int))) i j k l m o (p++[g]) q))):=(hw _ _).trans (by kernel_rfl)
theorem Z153.l7_succ(R:Run)(hw:R.ok)(N a n:Nat)(b:vM)(c d e f g h i j k l m o p:Int)(q r:List Int):Z153.l7 R N a (n+1) b c d e f g h i j k l m o p q r=(bif (decide (i<d)) then((chk (decide (0≤(w64 ((w64 (f*d))+i)))&&decide ((w64 ((w64 (f*d))+i))<(List.length r:Int)))).bind fun _=>(Option.bind (r)[(Int.toNat (w64 ((w64 (f*d))+i)))]? fun y166=>((chk (c != 0)).bind fun _=>((chk (decide (0≤(w64 ((w64 (f*d))+i)))&&decide ((w64 ((w64 (f*d))+i))<(List.length r:Int)))).bind fun _=>(Z153.l7 R N a n b c d e f g h (w64 (i+(1:Int))) j k l m o p q (List.set r (Int.toNat (w64 ((w64 (f*d))+i))) (Int.tmod (w64 (y166*h)) c))))))) else(Z153.l8 R N a N b c d e f g (0:Int) j k l m o p q r)):=(hw _ _).trans (by kernel_rfl)
theorem Z153.j6_eq(R:Run)(hw:R.ok)(N a:Nat)(b:vM)(c d e f g h i j k l m:Int)(o p:List Int):Z153.j6 R N a b c d e f g h i j k l m o p=((chk (decide (0≤(w64 ((w64 (f*d))+g)))&&decide ((w64 ((w64 (f*d))+g))<(List.length p:Int)))).bind fun _=>(Option.bind (p)[(Int.toNat (w64 ((w64 (f*d))+g)))]? fun y148=>((chk (c != 0)).bind fun _=>((qcx R n_Z148 o_Z148 [⟨yI,y148⟩,⟨yI,c⟩]).bind fun r149=>(Z153.l7 R N a N b c d (Int.tmod (w64 (e*y148)) c) f g r149.1 (0:Int) h i j k l m o p))))):=(hw _ _).trans (by kernel_rfl)
theorem Z153.l5_succ(R:Run)(hw:R.ok)(N a n:Nat)(b:vM)(c d e f g h i j k l m o p:Int)(q r:List Int):Z153.l5 R N a (n+1) b c d e f g h i j k l m o p q r=(bif (decide (i<d)) then((chk (decide (0≤(w64 ((w64 (h*d))+i)))&&decide ((w64 ((w64 (h*d))+i))<(List.length r:Int)))).bind fun _=>(Option.bind (r)[(Int.toNat (w64 ((w64 (h*d))+i)))]? fun y116=>((chk (decide (0≤(w64 ((w64 (f*d))+i)))&&decide ((w64 ((w64 (f*d))+i))<(List.length r:Int)))).bind fun _=>(Option.bind (r)[(Int.toNat (w64 ((w64 (f*d))+i)))]? fun y117=>((chk (decide (0≤(w64 ((w64 (h*d))+i)))&&decide ((w64 ((w64 (h*d))+i))<(List.length r:Int)))).bind fun _=>((chk (decide (0≤(w64 ((w64 (f*d))+i)))&&decide ((w64 ((w64 (f*d))+i))<(List.length (List.set r (Int.toNat (w64 ((w64 (h*d))+i))) y117):Int)))).bind fun _=>(Z153.l5 R N a n b c d e f g h (w64 (i+(1:Int))) j k l m o p q (List.set (List.set r (Int.toNat (w64 ((w64 (h*d))+i))) y117) (Int.toNat (w64 ((w64 (f*d))+i))) y116)))))))) else(Z153.j6 R N a b c d e f g j k l m o p q r)):=(hw _ _).trans (by kernel_rfl)
theorem Z153.j4_eq(R:Run)(hw:R.ok)(N a b:Nat)(c:vM)(d e f g h i:Int)(j:Bool)(k l m o p q:Int)(r s:List Int):Z153.j4 R N a b c d e f g h i j k l m o p q r s=(bif j then(Z153.l3 R N a b c d e f g h (w64 (i+(1:Int))) k l m o p q r s) else(bif (i==c.2.1) then(Z153.l1 R N a c d e f g (w64 (h+(1:Int))) k l m o p q r s) else(bif (i != g) then(Z153.l5 R N a N c d e (w64 (d-f)) g h i (0:Int) k l m o p q r s) else(Z153.j6 R N a c d e f g h k l m o p q r s)))):=(hw _ _).trans (by kernel_rfl)
theorem Z153.l3_succ(R:Run)(hw:R.ok)(N a n:Nat)(b:vM)(c d e f g h i j k l m o:Int)(p q:List Int):Z153.l3 R N a (n+1) b c d e f g h i j k l m o p q=(bif (decide (h<b.2.1)) then((chk (decide (0≤(w64 ((w64 (h*d))+g)))&&decide ((w64 ((w64 (h*d))+g))<(List.length q:Int)))).bind fun _=>(Option.bind (q)[(Int.toNat (w64 ((w64 (h*d))+g)))]? fun y54=>(Z153.j4 R N a n b c d e f g h (y54==(0:Int)) i j k l m o p q))) else(Z153.j4 R N a n b c d e f g h false i j k l m o p q)):=(hw _ _).trans (by kernel_rfl)
theorem Z153.j2_eq(R:Run)(hw:R.ok)(N a:Nat)(b:vM)(c d e f g:Int)(h:Bool)(i j k l m o:Int)(p q:List Int):Z153.j2 R N a b c d e f g h i j k l m o p q=(bif h then(Z153.l3 R N a N b c d e f g f i j k l m o p q) else some ⟨o_Z153,(l,m,o,q,p,e,())⟩):=(hw _ _).trans (by kernel_rfl)
theorem Z153.l1_succ(R:Run)(hw:R.ok)(N n:Nat)(a:vM)(b c d e f g h i j k l:Int)(m o:List Int):Z153.l1 R N (n+1) a b c d e f g h i j k l m o=(bif (decide (f<c)) then(Z153.j2 R N n a b c d e f (decide (e<a.2.1)) g h i j k l m o) else(Z153.j2 R N n a b c d e f false g h i j k l m o)):=(hw _ _).trans (by kernel_rfl)
theorem Z153.j0_eq(R:Run)(hw:R.ok)(N:Nat)(a:vM)(b c d e f g:Int)(h:List Int):Z153.j0 R N a b c d e f g h=(Z153.l1 R N N a a.1 a.2.2.1 (1:Int) (0:Int) (0:Int) b c d e f g ([]:List Int) h):=(hw _ _).trans (by kernel_rfl)
theorem Z153.ev(R:Run)(N:Nat)(a0:vM):qsp E R sg_Z153 pol_Z153 F_Z153 N [⟨(.ptr yM),a0⟩]=(qo4 ((qcx R n_Z137 o_Z137 [⟨yL,a0.2.2.2.1⟩]).bind fun r1=>(Z153.j0 R N a0 (0:Int) (0:Int) (0:Int) a0.1 a0.2.1 a0.2.2.1 r1.1)) ((qcx R n_Z137 o_Z137 [⟨yL,a0.2.2.2.1⟩]).bind fun r359=>(Z153.j0 R N a0 (0:Int) (0:Int) (0:Int) a0.1 a0.2.1 a0.2.2.1 r359.1))):=by kernel_rfl
theorem Z152.ev(R:Run)(N:Nat)(a0:vM):qsp E R sg_Z152 pol_Z152 F_Z152 N [⟨(.ptr yM),a0⟩]=((qcx R n_Z153 o_Z153 [⟨(.ptr yM),a0⟩]).bind fun r1=>some ⟨o_Z152,((List.length r1.2.2.2.2.1:Int),())⟩):=by kernel_rfl
def Z178.l1(R:Run)(N a n:Nat)(b e f g h i j k l m:Int)(o:List Int)(p q:Int)(r:List Int):Option Dv:=R.w (some ⟨(.c (.box 60 0)::(.c (.d yI b)::(.c (.d yI e)::(zd 3 (.c (.box 6 0)::(V.dead::(.c (.box 8 0)::(.c (.d yI f)::(.c (.d yI g)::(zd 49 [])))))))))),(zo 6 (some (.box [.d yI h,.d yI i,.d yI j,.nils yI] false false)::(none::(some (.box [.d yI k,.d yI l,.d yI m,.arr 64] false false)::(zo 51 (some (.box [.d (.sl (.int .u8)) o,.d yI p,.d (.int .u64) q] false true)::(zo 3 (some (.arr yI r true false false)::[]))))))))⟩) fun st=>lC R pol_Z178 10 N [1,1,1,1,0,1,0,0,1,0,0,1,1,0,0] F_Z178 n st (kB R pol_Z178 2 (kB R pol_Z178 1 (kS R pol_Z178 7 N [1,1,1,1,0,1,0,0,1,1] F_Z178 (kL R pol_Z178 6 N [1,1,1,1,0,1,0,0] F_Z178 a (kB R pol_Z178 0 (kS R pol_Z178 13 N [1,1,1,1,1] F_Z178 (qsX E sg_Z178 F_Z178)))))))
def Z178.l0(R:Run)(N n:Nat)(a b e f g h i j k:Int)(l:List Int)(m o:Int)(p:List Int):Option Dv:=R.w (some ⟨(.c (.box 60 0)::(.c (.d yI a)::(.c (.d yI b)::(zd 3 (.c (.box 6 0)::(V.dead::(.c (.box 8 0)::(.c (.d yI e)::(zd 50 []))))))))),(zo 6 (some (.box [.d yI f,.d yI g,.d yI h,.nils yI] false false)::(none::(some (.box [.d yI i,.d yI j,.d yI k,.arr 64] false false)::(zo 51 (some (.box [.d (.sl (.int .u8)) l,.d yI m,.d (.int .u64) o] false true)::(zo 3 (some (.arr yI p true false false)::[]))))))))⟩) fun st=>lC R pol_Z178 6 N [1,1,1,1,0,1,0,0] F_Z178 n st (kB R pol_Z178 0 (kS R pol_Z178 13 N [1,1,1,1,1] F_Z178 (qsX E sg_Z178 F_Z178)))
theorem Z178.l1_succ(R:Run)(hw:R.ok)(N a n:Nat)(b c d e f g h i j k:Int)(l:List Int)(m o:Int)(p:List Int):Z178.l1 R N a (n+1) b c d e f g h i j k l m o p=(bif (decide (e<c)) then((qcx R n_Z144 o_Z144 [⟨(.ptr yR),(l,m,o,())⟩,⟨yI,b⟩]).bind fun r32=>((chk (decide (0≤(w64 ((w64 (d*c))+e)))&&decide ((w64 ((w64 (d*c))+e))<(List.length p:Int)))).bind fun _=>(Z178.l1 R N a n b c d (w64 (e+(1:Int))) f g h i j k r32.2.1.1 r32.2.1.2.1 r32.2.1.2.2.1 (List.set p (Int.toNat (w64 ((w64 (d*c))+e))) r32.1)))) else(Z178.l0 R N a b c (w64 (d+(1:Int))) f g h i j k l m o p)):=(hw _ _).trans (by kernel_rfl)
theorem Z178.l0_succ(R:Run)(hw:R.ok)(N n:Nat)(a b c d e f g h i:Int)(j:List Int)(k l:Int)(m:List Int):Z178.l0 R N (n+1) a b c d e f g h i j k l m=(bif (decide (c<b)) then((qcx R n_Z144 o_Z144 [⟨(.ptr yR),(j,k,l,())⟩,⟨yI,(w64 (a-(1:Int)))⟩]).bind fun r17=>((chk (decide (0≤(w64 ((w64 (c*b))+c)))&&decide ((w64 ((w64 (c*b))+c))<(List.length m:Int)))).bind fun _=>(Z178.l1 R N n N a b c (w64 (c+(1:Int))) d e f g h i r17.2.1.1 r17.2.1.2.1 r17.2.1.2.2.1 (List.set m (Int.toNat (w64 ((w64 (c*b))+c))) (w64 ((1:Int)+r17.1)))))) else some ⟨o_Z178,(g,h,i,m,(j,k,l,()),())⟩):=(hw _ _).trans (by kernel_rfl)
theorem Z178.ev(R:Run)(N:Nat)(a0:((List Int)×Int×Int×Unit))(a1 a2:Int):qsp E R sg_Z178 pol_Z178 F_Z178 N [⟨(.ptr yR),a0⟩,⟨yI,a1⟩,⟨yI,a2⟩]=((qcx R n_Z147 o_Z147 [⟨(.ptr yR),(a0.1,a0.2.1,a0.2.2.1,())⟩,⟨yI,a1⟩,⟨yI,a2⟩,⟨yI,a2⟩]).bind fun r1=>((qcx R n_Z152 o_Z152 [⟨(.ptr yM),(r1.1,r1.2.1,r1.2.2.1,r1.2.2.2.1,())⟩]).bind fun r2=>(bif (r2.1==a2) then some ⟨o_Z178,(r1.1,r1.2.1,r1.2.2.1,r1.2.2.2.1,(r1.2.2.2.2.1.1,r1.2.2.2.2.1.2.1,r1.2.2.2.2.1.2.2.1,()),())⟩ else((qcx R n_Z155 o_Z155 [⟨yI,a1⟩,⟨yI,a2⟩]).bind fun r3=>(Z178.l0 R N N a1 a2 (0:Int) (0:Int) (0:Int) (0:Int) r3.1 r3.2.1 r3.2.2.1 r1.2.2.2.2.1.1 r1.2.2.2.2.1.2.1 r1.2.2.2.2.1.2.2.1 r3.2.2.2.1))))):=by kernel_rfl
theorem Z136.ev(R:Run)(N:Nat)(a0 a1 a2:Int):qsp E R sg_Z136 pol_Z136 F_Z136 N [⟨yI,a0⟩,⟨yI,a1⟩,⟨yI,a2⟩]=(bif (decide (a0≥a1)) then some ⟨o_Z136,((decide (a0≤a2)),())⟩ else some ⟨o_Z136,(false,())⟩):=by kernel_rfl
def Z145.l0(R:Run)(N n:Nat)(a b:Int):Option Dv:=R.w (some ⟨(.c (.d yI a)::(V.dead::(V.dead::(.c (.d yI b)::(zd 14 []))))),(zo 19 [])⟩) fun st=>lC R pol_Z145 4 N [1,1,0,1,0,0] F_Z145 n st (kB R pol_Z145 0 (kS R pol_Z145 8 N [1,1,1] F_Z145 (qsX E sg_Z145 F_Z145)))
theorem Z145.l0_succ(R:Run)(hw:R.ok)(N n:Nat)(a b:Int):Z145.l0 R N (n+1) a b=(bif (decide ((w64 (b*b))≤a)) then((chk (b != 0)).bind fun _=>(bif ((Int.tmod a b)==(0:Int)) then some ⟨o_Z145,(false,())⟩ else(Z145.l0 R N n a (w64 (b+(1:Int)))))) else some ⟨o_Z145,(true,())⟩):=(hw _ _).trans (by kernel_rfl)
theorem Z145.ev(R:Run)(N:Nat)(a0:Int):qsp E R sg_Z145 pol_Z145 F_Z145 N [⟨yI,a0⟩]=((qcx R n_Z136 o_Z136 [⟨yI,a0⟩,⟨yI,(2:Int)⟩,⟨yI,(251:Int)⟩]).bind fun r1=>(bif (!r1.1) then some ⟨o_Z145,(false,())⟩ else(Z145.l0 R N N a0 (2:Int)))):=by kernel_rfl
theorem Z134.ev(R:Run)(N:Nat)(a0:Int):qsp E R sg_Z134 pol_Z134 F_Z134 N [⟨yI,a0⟩]=((qcx R n_Z145 o_Z145 [⟨yI,a0⟩]).bind fun r1=>some ⟨o_Z134,(r1.1,())⟩):=by kernel_rfl
def Z146.l0(R:Run)(N n:Nat)(a:List Int)(b e f:Int):Option Dv:=R.w (some ⟨(.c (.d yL a)::(.c (.d yI b)::(.c (.d yI e)::(zd 4 (.c (.d yI f)::(zd 18 [])))))),(zo 29 [])⟩) fun st=>lC R pol_Z146 2 N [1,0,1,0,0] F_Z146 n st (kB R pol_Z146 0 (kS R pol_Z146 6 N [1,1] F_Z146 (qsX E sg_Z146 F_Z146)))
theorem Z146.l0_succ(R:Run)(hw:R.ok)(N n:Nat)(a:List Int)(b c d:Int):Z146.l0 R N (n+1) a b c d=(bif (decide (d<(List.length a:Int))) then((idx? a d).bind fun y5=>((qcx R n_Z136 o_Z136 [⟨yI,(y5,()).1⟩,⟨yI,(0:Int)⟩,⟨yI,(w64 (c-(1:Int)))⟩]).bind fun r6=>(bif (!r6.1) then some ⟨o_Z146,(false,())⟩ else(Z146.l0 R N n a b c (w64 (d+(1:Int))))))) else some ⟨o_Z146,(((List.length a:Int)==b),())⟩):=(hw _ _).trans (by kernel_rfl)
theorem Z146.ev(R:Run)(N:Nat)(a0:List Int)(a1 a2:Int):qsp E R sg_Z146 pol_Z146 F_Z146 N [⟨yL,a0⟩,⟨yI,a1⟩,⟨yI,a2⟩]=(Z146.l0 R N N a0 a1 a2 (0:Int)):=by kernel_rfl
theorem Z151.ev(R:Run)(N:Nat)(a0:vM):qsp E R sg_Z151 pol_Z151 F_Z151 N [⟨(.ptr yM),a0⟩]=((qcx R n_Z134 o_Z134 [⟨yI,a0.1⟩]).bind fun r1=>(bif r1.1 then((qcx R n_Z136 o_Z136 [⟨yI,a0.2.1⟩,⟨yI,(0:Int)⟩,⟨yI,(32:Int)⟩]).bind fun r2=>(bif r2.1 then((qcx R n_Z136 o_Z136 [⟨yI,a0.2.2.1⟩,⟨yI,(0:Int)⟩,⟨yI,(32:Int)⟩]).bind fun r3=>(bif r3.1 then((qcx R n_Z146 o_Z146 [⟨yL,a0.2.2.2.1⟩,⟨yI,(w64 (a0.2.1*a0.2.2.1))⟩,⟨yI,a0.1⟩]).bind fun r4=>some ⟨o_Z151,(r4.1,())⟩) else some ⟨o_Z151,(false,())⟩)) else some ⟨o_Z151,(false,())⟩)) else some ⟨o_Z151,(false,())⟩)):=by kernel_rfl
def Z149.l1(R:Run)(N n:Nat)(a b:vM)(e f g h i j k:Int)(l:List Int):Option Dv:=R.w (some ⟨(.c (.ip yM a 0)::(.c (.ip yM b 0)::(V.dead::(V.dead::(.c (.box 4 0)::(.c (.box 5 0)::(.c (.d yI e)::(zd 72 [])))))))),(zo 4 (some (.box [.d yI f,.d yI g,.d yI h,.nils yI] false false)::(some (.box [.d yI i,.d yI j,.d yI k,.arr 24] false false)::(zo 18 (some (.arr yI l true false false)::(zo 56 []))))))⟩) fun st=>lC R pol_Z149 3 N [1,1,0,1,0,0] F_Z149 n st (kB R pol_Z149 0 (kS R pol_Z149 7 N [1,1,1] F_Z149 (qsX E sg_Z149 F_Z149)))
def Z149.j0(R:Run)(N:Nat)(a b:vM)(e f g h i j:Int)(k:List Int):Option Dv:=R.w (some ⟨(.c (.ip yM a 0)::(.c (.ip yM b 0)::(V.dead::(V.dead::(.c (.box 4 0)::(.c (.box 5 0)::(zd 73 []))))))),(zo 4 (some (.box [.d yI e,.d yI f,.d yI g,.nils yI] false false)::(some (.box [.d yI h,.d yI i,.d yI j,.arr 24] false false)::(zo 18 (some (.arr yI k true false false)::(zo 56 []))))))⟩) fun st=>eC R pol_Z149 N [1,1] F_Z149 st (qsX E sg_Z149 F_Z149)
theorem Z149.l1_succ(R:Run)(hw:R.ok)(N n:Nat)(a b:vM)(c d e f g h i:Int)(j:List Int):Z149.l1 R N (n+1) a b c d e f g h i j=(bif (decide (c<a.2.1)) then((chk (decide (0≤(w64 (c*a.2.2.1)))&&decide ((w64 (c*a.2.2.1))≤(w64 ((w64 (c+(1:Int)))*a.2.2.1)))&&decide ((w64 ((w64 (c+(1:Int)))*a.2.2.1))≤(List.length a.2.2.2.1:Int)))).bind fun _=>((chk (decide ((List.length j+List.length (List.drop (Int.toNat (w64 (c*a.2.2.1))) (List.take (Int.toNat (w64 ((w64 (c+(1:Int)))*a.2.2.1))) a.2.2.2.1)))*8≤70368744177664))).bind fun _=>((chk (decide (0≤(w64 (c*b.2.2.1)))&&decide ((w64 (c*b.2.2.1))≤(w64 ((w64 (c+(1:Int)))*b.2.2.1)))&&decide ((w64 ((w64 (c+(1:Int)))*b.2.2.1))≤(List.length b.2.2.2.1:Int)))).bind fun _=>((chk (decide ((List.length (j++(List.drop (Int.toNat (w64 (c*a.2.2.1))) (List.take (Int.toNat (w64 ((w64 (c+(1:Int)))*a.2.2.1))) a.2.2.2.1)))+List.length (List.drop (Int.toNat (w64 (c*b.2.2.1))) (List.take (Int.toNat (w64 ((w64 (c+(1:Int)))*b.2.2.1))) b.2.2.2.1)))*8≤70368744177664))).bind fun _=>(Z149.l1 R N n a b (w64 (c+(1:Int))) d e f g h i ((j++(List.drop (Int.toNat (w64 (c*a.2.2.1))) (List.take (Int.toNat (w64 ((w64 (c+(1:Int)))*a.2.2.1))) a.2.2.2.1)))++(List.drop (Int.toNat (w64 (c*b.2.2.1))) (List.take (Int.toNat (w64 ((w64 (c+(1:Int)))*b.2.2.1))) b.2.2.2.1)))))))) else some ⟨o_Z149,(g,h,i,j,())⟩):=(hw _ _).trans (by kernel_rfl)
theorem Z149.j0_eq(R:Run)(hw:R.ok)(N:Nat)(a b:vM)(c d e f g h:Int)(i:List Int):Z149.j0 R N a b c d e f g h i=(Z149.l1 R N N a b (0:Int) c d e f g h i):=(hw _ _).trans (by kernel_rfl)
theorem Z149.ev(R:Run)(N:Nat)(a0 a1:vM):qsp E R sg_Z149 pol_Z149 F_Z149 N [⟨(.ptr yM),a0⟩,⟨(.ptr yM),a1⟩]=(qo4 (Z149.j0 R N a0 a1 (0:Int) (0:Int) (0:Int) a0.1 a0.2.1 (w64 (a0.2.2.1+a1.2.2.1)) ([]:List Int)) (Z149.j0 R N a0 a1 (0:Int) (0:Int) (0:Int) a0.1 a0.2.1 (w64 (a0.2.2.1+a1.2.2.1)) ([]:List Int))):=by kernel_rfl
end
end VeT
