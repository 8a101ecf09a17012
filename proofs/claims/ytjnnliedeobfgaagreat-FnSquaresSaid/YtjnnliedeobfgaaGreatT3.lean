import Derived.Test.YtjnnliedeobfgaaGreatV2
import Derived.Test.YtjnnliedeobfgaaGreatProg
import Derived.KernelRfl
set_option linter.unusedVariables false
set_option linter.unusedSimpArgs false
open Go Go.Proofs Ve
set_option maxRecDepth 100000
namespace VeT
abbrev yM : Ty := .cons (.int .i64) (.cons (.int .i64) (.cons (.int .i64) (.cons (.sl (.int .i64)) .nil)))
abbrev yI : Ty := .int .i64
abbrev yL : Ty := .sl yI
abbrev yK : Ty := .sl yL
abbrev yN : Ty := .sl (.st yM)
abbrev yS : Ty := .cons yK (.cons yI (.cons yL (.cons yN .nil)))
abbrev yR : Ty := .cons (.sl (.int .u8)) (.cons yI (.cons (.int .u64) .nil))
abbrev yC : Ty := .cons yK .nil
abbrev vM := Int × Int × Int × List Int × Unit
abbrev vK := List (List Int)
abbrev vN := List vM
abbrev vS := vK × Int × List Int × vN × Unit
noncomputable section
def bodyOf(f:Func):Code:=f.body.getD .skip
def zd:Nat→List Ve.V→List Ve.V
  | 0,t=>t
  | n+1,t=>V.dead::zd n t
def zo:Nat→List (Option Ve.Obj)→List (Option Ve.Obj)
  | 0,t=>t
  | n+1,t=>none::zo n t
abbrev n_Z90:Nat:=6
abbrev n_Z92:Nat:=11
abbrev n_Z91:Nat:=13
abbrev n_Z93:Nat:=19
abbrev n_Z5:Nat:=30
abbrev n_Z6:Nat:=34
abbrev n_Z124:Nat:=36
abbrev n_Z125:Nat:=37
abbrev n_Z126:Nat:=38
abbrev n_Z123:Nat:=39
abbrev n_Z14:Nat:=40
abbrev n_Z8:Nat:=41
abbrev n_Z11:Nat:=42
abbrev n_Z127:Nat:=78
abbrev n_Z33:Nat:=81
abbrev n_Z144:Nat:=83
abbrev n_Z136:Nat:=85
abbrev n_Z31:Nat:=89
abbrev n_Z32:Nat:=95
abbrev n_Z24:Nat:=96
abbrev n_Z78:Nat:=103
abbrev n_Z55:Nat:=104
abbrev n_Z17:Nat:=108
abbrev n_Z81:Nat:=111
abbrev n_Z65:Nat:=112
abbrev n_Z20:Nat:=113
abbrev n_Z86:Nat:=114
abbrev n_Z28:Nat:=115
abbrev n_Z44:Nat:=116
abbrev n_Z73:Nat:=117
abbrev n_Z7:Nat:=118
abbrev n_Z84:Nat:=119
abbrev n_Z150:Nat:=120
abbrev n_Z145:Nat:=123
abbrev n_Z141:Nat:=124
abbrev n_Z149:Nat:=125
abbrev n_Z137:Nat:=126
abbrev n_Z138:Nat:=127
abbrev n_Z77:Nat:=128
abbrev n_Z102:Nat:=129
abbrev n_Z15:Nat:=130
abbrev n_Z16:Nat:=131
abbrev n_Z56:Nat:=132
abbrev n_Z121:Nat:=133
abbrev n_Z21:Nat:=134
abbrev n_Z87:Nat:=135
abbrev n_Z12:Nat:=136
abbrev n_Z88:Nat:=137
abbrev n_Z72:Nat:=143
abbrev n_Z54:Nat:=154
abbrev n_Z109:Nat:=155
abbrev n_Z152:Nat:=156
abbrev n_Z148:Nat:=157
abbrev n_Z63:Nat:=168
abbrev n_Z99:Nat:=175
abbrev n_Z133:Nat:=179
abbrev n_Z79:Nat:=181
abbrev n_Z128:Nat:=197
abbrev n_Z134:Nat:=198
abbrev n_Z82:Nat:=201
abbrev n_Z80:Nat:=202
abbrev n_Z34:Nat:=203
abbrev n_Z41:Nat:=211
abbrev n_Z10:Nat:=212
abbrev n_Z45:Nat:=213
abbrev n_Z40:Nat:=214
abbrev n_Z52:Nat:=215
abbrev n_Z9:Nat:=216
abbrev n_Z25:Nat:=217
abbrev n_Z135:Nat:=218
abbrev n_Z129:Nat:=222
abbrev n_Z36:Nat:=225
abbrev n_Z38:Nat:=226
abbrev n_Z22:Nat:=229
abbrev n_Z35:Nat:=230
abbrev n_Z100:Nat:=231
abbrev n_Z46:Nat:=232
abbrev n_Z18:Nat:=233
abbrev n_Z42:Nat:=237
abbrev n_Z108:Nat:=238
abbrev n_Z71:Nat:=239
abbrev n_Z29:Nat:=240
abbrev n_Z96:Nat:=241
abbrev n_Z30:Nat:=242
abbrev n_Z39:Nat:=243
abbrev n_Z47:Nat:=244
abbrev n_Z85:Nat:=245
abbrev n_Z142:Nat:=246
abbrev n_Z147:Nat:=247
abbrev n_Z140:Nat:=248
abbrev n_Z143:Nat:=250
abbrev n_Z146:Nat:=251
abbrev n_Z139:Nat:=252
abbrev n_Z114:Nat:=253
abbrev n_Z94:Nat:=254
abbrev n_Z58:Nat:=255
abbrev n_Z69:Nat:=256
abbrev n_Z13:Nat:=257
abbrev n_Z89:Nat:=258
abbrev n_Z132:Nat:=266
abbrev n_Z122:Nat:=272
abbrev n_Z97:Nat:=273
abbrev n_Z131:Nat:=274
abbrev n_Z64:Nat:=281
abbrev n_Z110:Nat:=285
abbrev n_Z26:Nat:=290
abbrev n_Z83:Nat:=292
abbrev n_Z53:Nat:=293
abbrev n_Z37:Nat:=295
abbrev n_Z60:Nat:=301
abbrev n_Z23:Nat:=302
abbrev n_Z62:Nat:=303
abbrev n_Z2:Nat:=304
abbrev n_Z0:Nat:=305
abbrev n_Z98:Nat:=306
abbrev n_Z111:Nat:=307
abbrev n_Z43:Nat:=310
abbrev n_Z57:Nat:=311
abbrev n_Z151:Nat:=312
abbrev n_Z130:Nat:=313
abbrev n_Z19:Nat:=314
abbrev n_Z70:Nat:=315
abbrev n_Z27:Nat:=321
abbrev n_Z59:Nat:=322
abbrev n_Z66:Nat:=324
abbrev n_Z3:Nat:=327
abbrev n_Z1:Nat:=328
abbrev n_Z68:Nat:=340
abbrev n_Z61:Nat:=341
abbrev n_Z67:Nat:=350
abbrev n_Z4:Nat:=351
abbrev F_Z90:Func:=Tryz.f6
abbrev F_Z92:Func:=Tryz.f11
abbrev F_Z91:Func:=Tryz.f13
abbrev F_Z93:Func:=Tryz.f19
abbrev F_Z5:Func:=Tryz.f30
abbrev F_Z6:Func:=Tryz.f34
abbrev F_Z124:Func:=Tryz.f36
abbrev F_Z125:Func:=Tryz.f37
abbrev F_Z126:Func:=Tryz.f38
abbrev F_Z123:Func:=Tryz.f39
abbrev F_Z14:Func:=Tryz.f40
abbrev F_Z8:Func:=Tryz.f41
abbrev F_Z11:Func:=Tryz.f42
abbrev F_Z127:Func:=Tryz.f78
abbrev F_Z33:Func:=Tryz.f81
abbrev F_Z144:Func:=Tryz.f83
abbrev F_Z136:Func:=Tryz.f85
abbrev F_Z31:Func:=Tryz.f89
abbrev F_Z32:Func:=Tryz.f95
abbrev F_Z24:Func:=Tryz.f96
abbrev F_Z78:Func:=Tryz.f103
abbrev F_Z55:Func:=Tryz.f104
abbrev F_Z17:Func:=Tryz.f108
abbrev F_Z81:Func:=Tryz.f111
abbrev F_Z65:Func:=Tryz.f112
abbrev F_Z20:Func:=Tryz.f113
abbrev F_Z86:Func:=Tryz.f114
abbrev F_Z28:Func:=Tryz.f115
abbrev F_Z44:Func:=Tryz.f116
abbrev F_Z73:Func:=Tryz.f117
abbrev F_Z7:Func:=Tryz.f118
abbrev F_Z84:Func:=Tryz.f119
abbrev F_Z150:Func:=Tryz.f120
abbrev F_Z145:Func:=Tryz.f123
abbrev F_Z141:Func:=Tryz.f124
abbrev F_Z149:Func:=Tryz.f125
abbrev F_Z137:Func:=Tryz.f126
abbrev F_Z138:Func:=Tryz.f127
abbrev F_Z77:Func:=Tryz.f128
abbrev F_Z102:Func:=Tryz.f129
abbrev F_Z15:Func:=Tryz.f130
abbrev F_Z16:Func:=Tryz.f131
abbrev F_Z56:Func:=Tryz.f132
abbrev F_Z121:Func:=Tryz.f133
abbrev F_Z21:Func:=Tryz.f134
abbrev F_Z87:Func:=Tryz.f135
abbrev F_Z12:Func:=Tryz.f136
abbrev F_Z88:Func:=Tryz.f137
abbrev F_Z72:Func:=Tryz.f143
abbrev F_Z54:Func:=Tryz.f154
abbrev F_Z109:Func:=Tryz.f155
abbrev F_Z152:Func:=Tryz.f156
abbrev F_Z148:Func:=Tryz.f157
abbrev F_Z63:Func:=Tryz.f168
abbrev F_Z99:Func:=Tryz.f175
abbrev F_Z133:Func:=Tryz.f179
abbrev F_Z79:Func:=Tryz.f181
abbrev F_Z128:Func:=Tryz.f197
abbrev F_Z134:Func:=Tryz.f198
abbrev F_Z82:Func:=Tryz.f201
abbrev F_Z80:Func:=Tryz.f202
abbrev F_Z34:Func:=Tryz.f203
abbrev F_Z41:Func:=Tryz.f211
abbrev F_Z10:Func:=Tryz.f212
abbrev F_Z45:Func:=Tryz.f213
abbrev F_Z40:Func:=Tryz.f214
abbrev F_Z52:Func:=Tryz.f215
abbrev F_Z9:Func:=Tryz.f216
abbrev F_Z25:Func:=Tryz.f217
abbrev F_Z135:Func:=Tryz.f218
abbrev F_Z129:Func:=Tryz.f222
abbrev F_Z36:Func:=Tryz.f225
abbrev F_Z38:Func:=Tryz.f226
abbrev F_Z22:Func:=Tryz.f229
abbrev F_Z35:Func:=Tryz.f230
abbrev F_Z100:Func:=Tryz.f231
abbrev F_Z46:Func:=Tryz.f232
abbrev F_Z18:Func:=Tryz.f233
abbrev F_Z42:Func:=Tryz.f237
abbrev F_Z108:Func:=Tryz.f238
abbrev F_Z71:Func:=Tryz.f239
abbrev F_Z29:Func:=Tryz.f240
abbrev F_Z96:Func:=Tryz.f241
abbrev F_Z30:Func:=Tryz.f242
abbrev F_Z39:Func:=Tryz.f243
abbrev F_Z47:Func:=Tryz.f244
abbrev F_Z85:Func:=Tryz.f245
abbrev F_Z142:Func:=Tryz.f246
abbrev F_Z147:Func:=Tryz.f247
abbrev F_Z140:Func:=Tryz.f248
abbrev F_Z143:Func:=Tryz.f250
abbrev F_Z146:Func:=Tryz.f251
abbrev F_Z139:Func:=Tryz.f252
abbrev F_Z114:Func:=Tryz.f253
abbrev F_Z94:Func:=Tryz.f254
abbrev F_Z58:Func:=Tryz.f255
abbrev F_Z69:Func:=Tryz.f256
abbrev F_Z13:Func:=Tryz.f257
abbrev F_Z89:Func:=Tryz.f258
abbrev F_Z132:Func:=Tryz.f266
abbrev F_Z122:Func:=Tryz.f272
abbrev F_Z97:Func:=Tryz.f273
abbrev F_Z131:Func:=Tryz.f274
abbrev F_Z64:Func:=Tryz.f281
abbrev F_Z110:Func:=Tryz.f285
abbrev F_Z26:Func:=Tryz.f290
abbrev F_Z83:Func:=Tryz.f292
abbrev F_Z53:Func:=Tryz.f293
abbrev F_Z37:Func:=Tryz.f295
abbrev F_Z60:Func:=Tryz.f301
abbrev F_Z23:Func:=Tryz.f302
abbrev F_Z62:Func:=Tryz.f303
abbrev F_Z2:Func:=Tryz.f304
abbrev F_Z0:Func:=Tryz.f305
abbrev F_Z98:Func:=Tryz.f306
abbrev F_Z111:Func:=Tryz.f307
abbrev F_Z43:Func:=Tryz.f310
abbrev F_Z57:Func:=Tryz.f311
abbrev F_Z151:Func:=Tryz.f312
abbrev F_Z130:Func:=Tryz.f313
abbrev F_Z19:Func:=Tryz.f314
abbrev F_Z70:Func:=Tryz.f315
abbrev F_Z27:Func:=Tryz.f321
abbrev F_Z59:Func:=Tryz.f322
abbrev F_Z66:Func:=Tryz.f324
abbrev F_Z3:Func:=Tryz.f327
abbrev F_Z1:Func:=Tryz.f328
abbrev F_Z68:Func:=Tryz.f340
abbrev F_Z61:Func:=Tryz.f341
abbrev F_Z67:Func:=Tryz.f350
abbrev F_Z4:Func:=Tryz.f351
abbrev o_Z90:Ty:=(.cons .bool .nil)
def sg_Z90:Sig:=⟨[(false,1),(false,1)],[],o_Z90,[(false,1)],[],[]⟩
abbrev o_Z92:Ty:=(.cons .bool .nil)
def sg_Z92:Sig:=⟨[(false,1),(false,1)],[],o_Z92,[(false,1)],[],[]⟩
abbrev o_Z91:Ty:=(.cons yI .nil)
def sg_Z91:Sig:=⟨[(false,1),(false,1),(false,1)],[],o_Z91,[(false,1)],[],[]⟩
abbrev o_Z93:Ty:=(.cons .bool .nil)
def sg_Z93:Sig:=⟨[(false,1),(false,1)],[],o_Z93,[(false,1)],[],[]⟩
abbrev o_Z5:Ty:=(.cons yL (.cons yI .nil))
def sg_Z5:Sig:=⟨[(true,4)],[],o_Z5,[(false,1),(false,1)],[.deep,.imm],[]⟩
abbrev o_Z6:Ty:=(.cons yK (.cons yI (.cons yL (.cons yN (.cons yI .nil)))))
def sg_Z6:Sig:=⟨[(true,1),(false,1),(false,1)],[],o_Z6,[(true,4),(false,1)],[.deep,.imm,.deep,.deep,.imm],[]⟩
abbrev o_Z124:Ty:=yC
def sg_Z124:Sig:=⟨[(false,1)],[],o_Z124,[(true,1)],[],[]⟩
abbrev o_Z125:Ty:=(.cons yI .nil)
def sg_Z125:Sig:=⟨[(false,1)],[],o_Z125,[(false,1)],[],[]⟩
abbrev o_Z126:Ty:=(.cons yL (.cons yI .nil))
def sg_Z126:Sig:=⟨[(true,1),(false,1)],[],o_Z126,[(false,1),(false,1)],[.deep,.imm],[]⟩
abbrev o_Z123:Ty:=(.cons yI (.cons yI .nil))
def sg_Z123:Sig:=⟨[(false,1),(false,1)],[],o_Z123,[(false,1),(false,1)],[],[]⟩
abbrev o_Z14:Ty:=(.cons yK (.cons yI (.cons yL (.cons yN (.cons yI .nil)))))
def sg_Z14:Sig:=⟨[(true,1),(false,1),(false,1)],[],o_Z14,[(true,4),(false,1)],[.deep,.imm,.deep,.deep,.imm],[]⟩
abbrev o_Z8:Ty:=(.cons .bool .nil)
def sg_Z8:Sig:=⟨[(true,4)],[],o_Z8,[(false,1)],[],[]⟩
abbrev o_Z11:Ty:=(.cons yK (.cons yI (.cons yL (.cons yN (.cons yI .nil)))))
def sg_Z11:Sig:=⟨[(true,1),(false,1),(false,1),(false,1)],[],o_Z11,[(true,4),(false,1)],[.deep,.imm,.deep,.deep,.imm],[]⟩
abbrev o_Z127:Ty:=(.cons (.ptr yR) .nil)
def sg_Z127:Sig:=⟨[(false,1)],[],o_Z127,[(false,1)],[.bx],[]⟩
abbrev o_Z33:Ty:=yC
def sg_Z33:Sig:=⟨[(true,4),(false,1)],[],o_Z33,[(false,1)],[.deep],[]⟩
abbrev o_Z144:Ty:=(.cons .bool .nil)
def sg_Z144:Sig:=⟨[(false,1)],[],o_Z144,[(false,1)],[],[]⟩
abbrev o_Z136:Ty:=(.cons yI (.cons (.ptr yR) .nil))
def sg_Z136:Sig:=⟨[(false,1),(false,1)],[.iob,.imm],o_Z136,[(false,1)],[],[(.ptr yR)]⟩
abbrev o_Z31:Ty:=(.cons yI (.cons yI yC))
def sg_Z31:Sig:=⟨[(true,4),(false,1)],[],o_Z31,[(true,3)],[.imm,.imm,.deep],[]⟩
abbrev o_Z32:Ty:=yM
def sg_Z32:Sig:=⟨[(true,4),(false,1)],[],o_Z32,[(true,4)],[.imm,.imm,.imm,.deep],[]⟩
abbrev o_Z24:Ty:=(.cons yL .nil)
def sg_Z24:Sig:=⟨[(false,1),(false,1),(false,1),(false,1)],[],o_Z24,[(false,1)],[.deep],[]⟩
abbrev o_Z78:Ty:=(.cons yI .nil)
def sg_Z78:Sig:=⟨[(false,1)],[],o_Z78,[(false,1)],[],[]⟩
abbrev o_Z55:Ty:=yC
def sg_Z55:Sig:=⟨[(true,3),(false,1)],[.imm,.imm,.imm,.take true],o_Z55,[(false,1)],[.deep],[]⟩
abbrev o_Z17:Ty:=(.cons .bool .nil)
def sg_Z17:Sig:=⟨[(true,1)],[],o_Z17,[(false,1)],[],[]⟩
abbrev o_Z81:Ty:=(.cons yI .nil)
def sg_Z81:Sig:=⟨[(true,4),(false,1)],[],o_Z81,[(false,1)],[],[]⟩
abbrev o_Z65:Ty:=yC
def sg_Z65:Sig:=⟨[(true,4)],[],o_Z65,[(false,1)],[.deep],[]⟩
abbrev o_Z20:Ty:=(.cons .bool .nil)
def sg_Z20:Sig:=⟨[(false,1)],[],o_Z20,[(false,1)],[],[]⟩
abbrev o_Z86:Ty:=(.cons .bool .nil)
def sg_Z86:Sig:=⟨[(false,1),(false,1),(false,1)],[],o_Z86,[(false,1)],[],[]⟩
abbrev o_Z28:Ty:=(.cons .bool .nil)
def sg_Z28:Sig:=⟨[(true,1),(false,1)],[],o_Z28,[(false,1)],[],[]⟩
abbrev o_Z44:Ty:=(.cons yL .nil)
def sg_Z44:Sig:=⟨[(true,1),(false,1)],[],o_Z44,[(false,1)],[.deep],[]⟩
abbrev o_Z73:Ty:=yS
def sg_Z73:Sig:=⟨[(true,1),(false,1),(false,1),(false,1)],[],o_Z73,[(true,4)],[.deep,.imm,.deep,.deep],[]⟩
abbrev o_Z7:Ty:=yM
def sg_Z7:Sig:=⟨[(true,3),(false,1),(false,1)],[],o_Z7,[(true,4)],[.imm,.imm,.imm,.deep],[.nil,.nil,.nil,(.ptr (.cons yI .nil)),(.ptr (.cons yI .nil))]⟩
abbrev o_Z84:Ty:=yM
def sg_Z84:Sig:=⟨[(false,1),(false,1)],[],o_Z84,[(true,4)],[.imm,.imm,.imm,.deep],[]⟩
abbrev o_Z150:Ty:=(.cons .bool .nil)
def sg_Z150:Sig:=⟨[(false,1)],[],o_Z150,[(false,1)],[],[(.ptr yC)]⟩
abbrev o_Z145:Ty:=(.cons yK (.cons (.ptr yR) .nil))
def sg_Z145:Sig:=⟨[(false,1)],[.iob],o_Z145,[(true,1)],[],[(.ptr yR)]⟩
abbrev o_Z141:Ty:=(.cons yI (.cons (.ptr yR) .nil))
def sg_Z141:Sig:=⟨[(false,1)],[.iob],o_Z141,[(false,1)],[],[(.ptr yR)]⟩
abbrev o_Z149:Ty:=(.cons yL .nil)
def sg_Z149:Sig:=⟨[(false,1),(false,1)],[],o_Z149,[(false,1)],[.deep],[(.ptr yC)]⟩
abbrev o_Z137:Ty:=(.cons yI .nil)
def sg_Z137:Sig:=⟨[(false,1),(false,1)],[],o_Z137,[(false,1)],[],[]⟩
abbrev o_Z138:Ty:=(.cons yI .nil)
def sg_Z138:Sig:=⟨[(false,1),(false,1)],[],o_Z138,[(false,1)],[],[]⟩
abbrev o_Z77:Ty:=(.cons yL .nil)
def sg_Z77:Sig:=⟨[(true,1),(false,1)],[],o_Z77,[(false,1)],[.deep],[]⟩
abbrev o_Z102:Ty:=(.cons .bool .nil)
def sg_Z102:Sig:=⟨[(false,1),(false,1)],[],o_Z102,[(false,1)],[],[]⟩
abbrev o_Z15:Ty:=(.cons .bool .nil)
def sg_Z15:Sig:=⟨[(false,1),(false,1)],[],o_Z15,[(false,1)],[],[.nil,(.ptr (.cons yI .nil))]⟩
abbrev o_Z16:Ty:=yM
def sg_Z16:Sig:=⟨[(true,3),(false,1),(false,1),(false,1),(false,1)],[],o_Z16,[(true,4)],[.imm,.imm,.imm,.deep],[.nil,.nil,.nil,(.ptr (.cons yI .nil)),(.ptr yC),(.ptr (.cons yL .nil)),(.ptr (.cons yL .nil))]⟩
abbrev o_Z56:Ty:=(.cons yI .nil)
def sg_Z56:Sig:=⟨[(true,1),(false,1)],[],o_Z56,[(false,1)],[],[]⟩
abbrev o_Z121:Ty:=(.cons yI .nil)
def sg_Z121:Sig:=⟨[(false,1),(false,1)],[],o_Z121,[(false,1)],[],[]⟩
abbrev o_Z21:Ty:=(.cons .bool .nil)
def sg_Z21:Sig:=⟨[(true,4)],[],o_Z21,[(false,1)],[],[]⟩
abbrev o_Z87:Ty:=(.cons yI (.cons yI (.cons .bool .nil)))
def sg_Z87:Sig:=⟨[(true,4)],[],o_Z87,[(false,1),(false,1),(false,1)],[],[]⟩
abbrev o_Z12:Ty:=yM
def sg_Z12:Sig:=⟨[(true,3),(false,1),(false,1)],[],o_Z12,[(true,4)],[.imm,.imm,.imm,.deep],[.nil,.nil,.nil,(.ptr (.cons yI .nil)),(.ptr (.cons yL .nil))]⟩
abbrev o_Z88:Ty:=yM
def sg_Z88:Sig:=⟨[(false,1),(false,1),(false,1)],[],o_Z88,[(true,4)],[.imm,.imm,.imm,.deep],[]⟩
abbrev o_Z72:Ty:=yC
def sg_Z72:Sig:=⟨[(true,4)],[],o_Z72,[(false,1)],[.deep],[]⟩
abbrev o_Z54:Ty:=yC
def sg_Z54:Sig:=⟨[(false,1)],[],o_Z54,[(true,1)],[.deep],[]⟩
abbrev o_Z109:Ty:=(.cons .bool .nil)
def sg_Z109:Sig:=⟨[(false,1),(false,1)],[],o_Z109,[(false,1)],[],[]⟩
abbrev o_Z152:Ty:=(.cons .bool .nil)
def sg_Z152:Sig:=⟨[(false,1)],[],o_Z152,[(false,1)],[],[]⟩
abbrev o_Z148:Ty:=(.cons yI .nil)
def sg_Z148:Sig:=⟨[(false,1),(false,1)],[],o_Z148,[(false,1)],[],[(.ptr yC)]⟩
abbrev o_Z63:Ty:=(.cons .bool .nil)
def sg_Z63:Sig:=⟨[(false,1)],[],o_Z63,[(false,1)],[],[]⟩
abbrev o_Z99:Ty:=(.cons yL .nil)
def sg_Z99:Sig:=⟨[(false,1)],[],o_Z99,[(false,1)],[.deep],[]⟩
abbrev o_Z133:Ty:=(.cons yI (.cons (.ptr yR) .nil))
def sg_Z133:Sig:=⟨[(false,1),(false,1)],[.iob,.imm],o_Z133,[(false,1)],[],[(.ptr yR)]⟩
abbrev o_Z79:Ty:=(.cons yI .nil)
def sg_Z79:Sig:=⟨[(false,1)],[],o_Z79,[(false,1)],[],[]⟩
abbrev o_Z128:Ty:=(.cons .bool .nil)
def sg_Z128:Sig:=⟨[(false,1),(false,1),(false,1)],[],o_Z128,[(false,1)],[],[]⟩
abbrev o_Z134:Ty:=(.cons yI (.cons (.ptr yR) .nil))
def sg_Z134:Sig:=⟨[(false,1)],[.iob],o_Z134,[(false,1)],[],[(.ptr yR)]⟩
abbrev o_Z82:Ty:=yM
def sg_Z82:Sig:=⟨[(true,4)],[],o_Z82,[(true,4)],[.imm,.imm,.imm,.deep],[]⟩
abbrev o_Z80:Ty:=(.cons yI (.cons yI yC))
def sg_Z80:Sig:=⟨[(false,1),(false,1),(false,1)],[],o_Z80,[(true,3)],[.imm,.imm,.deep],[]⟩
abbrev o_Z34:Ty:=yC
def sg_Z34:Sig:=⟨[(true,4)],[],o_Z34,[(false,1)],[.deep],[]⟩
abbrev o_Z41:Ty:=(.cons yI .nil)
def sg_Z41:Sig:=⟨[(false,1),(false,1),(false,1)],[],o_Z41,[(false,1)],[],[]⟩
abbrev o_Z10:Ty:=(.cons yL .nil)
def sg_Z10:Sig:=⟨[(true,4),(false,1)],[],o_Z10,[(false,1)],[],[]⟩
abbrev o_Z45:Ty:=(.cons yL .nil)
def sg_Z45:Sig:=⟨[(true,1),(false,1)],[],o_Z45,[(false,1)],[.deep],[]⟩
abbrev o_Z40:Ty:=yM
def sg_Z40:Sig:=⟨[(true,4),(false,1),(false,1)],[],o_Z40,[(true,4)],[],[]⟩
abbrev o_Z52:Ty:=(.cons yI .nil)
def sg_Z52:Sig:=⟨[(true,4),(false,1)],[],o_Z52,[(false,1)],[],[]⟩
abbrev o_Z9:Ty:=(.cons yI .nil)
def sg_Z9:Sig:=⟨[(true,4),(false,1),(false,1)],[],o_Z9,[(false,1)],[],[]⟩
abbrev o_Z25:Ty:=(.cons yI .nil)
def sg_Z25:Sig:=⟨[(false,1),(false,1)],[],o_Z25,[(false,1)],[],[]⟩
abbrev o_Z135:Ty:=(.cons .bool (.cons (.ptr yR) .nil))
def sg_Z135:Sig:=⟨[(false,1),(false,1)],[.iob,.imm],o_Z135,[(false,1)],[],[(.ptr yR)]⟩
abbrev o_Z129:Ty:=(.cons yL .nil)
def sg_Z129:Sig:=⟨[(false,1)],[],o_Z129,[(false,1)],[.deep],[]⟩
abbrev o_Z36:Ty:=(.cons .bool .nil)
def sg_Z36:Sig:=⟨[(true,3),(false,1)],[],o_Z36,[(false,1)],[],[]⟩
abbrev o_Z38:Ty:=yC
def sg_Z38:Sig:=⟨[(false,1)],[],o_Z38,[(false,1)],[.deep],[]⟩
abbrev o_Z22:Ty:=(.cons .bool .nil)
def sg_Z22:Sig:=⟨[(false,1)],[],o_Z22,[(false,1)],[],[]⟩
abbrev o_Z35:Ty:=(.cons yI .nil)
def sg_Z35:Sig:=⟨[(false,1),(false,1)],[],o_Z35,[(false,1)],[],[]⟩
abbrev o_Z100:Ty:=(.cons .bool .nil)
def sg_Z100:Sig:=⟨[(false,1),(false,1)],[],o_Z100,[(false,1)],[],[]⟩
abbrev o_Z46:Ty:=yC
def sg_Z46:Sig:=⟨[(false,1)],[],o_Z46,[(false,1)],[.deep],[]⟩
abbrev o_Z18:Ty:=(.cons .bool .nil)
def sg_Z18:Sig:=⟨[(false,1),(false,1),(false,1)],[],o_Z18,[(false,1)],[],[.nil,(.ptr yC),(.ptr (.cons yI .nil))]⟩
abbrev o_Z42:Ty:=(.cons yL (.cons yI yC))
def sg_Z42:Sig:=⟨[(false,1),(false,1),(false,1)],[.io false,.imm,.imm],o_Z42,[(false,1),(false,1)],[.deep,.imm],[]⟩
abbrev o_Z108:Ty:=(.cons .bool .nil)
def sg_Z108:Sig:=⟨[(false,1),(false,1)],[],o_Z108,[(false,1)],[],[]⟩
abbrev o_Z71:Ty:=(.cons yI .nil)
def sg_Z71:Sig:=⟨[(false,1),(false,1)],[],o_Z71,[(false,1)],[],[]⟩
abbrev o_Z29:Ty:=(.cons .bool .nil)
def sg_Z29:Sig:=⟨[(false,1)],[],o_Z29,[(false,1)],[],[]⟩
abbrev o_Z96:Ty:=(.cons yL .nil)
def sg_Z96:Sig:=⟨[(false,1)],[],o_Z96,[(false,1)],[.deep],[]⟩
abbrev o_Z30:Ty:=(.cons (.sl (.st (.cons yI (.cons yI (.cons yI .nil))))) .nil)
def sg_Z30:Sig:=⟨[(true,1)],[],o_Z30,[(false,1)],[.deep],[]⟩
abbrev o_Z39:Ty:=yM
def sg_Z39:Sig:=⟨[(true,4)],[],o_Z39,[(true,4)],[.imm,.imm,.imm,.deep],[]⟩
abbrev o_Z47:Ty:=yM
def sg_Z47:Sig:=⟨[(false,1),(false,1),(false,1),(false,1)],[],o_Z47,[(true,4)],[.imm,.imm,.imm,.deep],[]⟩
abbrev o_Z85:Ty:=(.cons yI .nil)
def sg_Z85:Sig:=⟨[(false,1),(false,1)],[],o_Z85,[(false,1)],[],[]⟩
abbrev o_Z142:Ty:=(.cons .bool .nil)
def sg_Z142:Sig:=⟨[(false,1),(false,1)],[],o_Z142,[(false,1)],[],[]⟩
abbrev o_Z147:Ty:=(.cons yL .nil)
def sg_Z147:Sig:=⟨[(false,1),(false,1)],[],o_Z147,[(false,1)],[.deep],[]⟩
abbrev o_Z140:Ty:=(.cons .bool .nil)
def sg_Z140:Sig:=⟨[(false,1)],[],o_Z140,[(false,1)],[],[]⟩
abbrev o_Z143:Ty:=yC
def sg_Z143:Sig:=⟨[(false,1)],[],o_Z143,[(true,1)],[],[]⟩
abbrev o_Z146:Ty:=(.cons yL (.cons (.ptr yR) .nil))
def sg_Z146:Sig:=⟨[(false,1),(false,1),(false,1)],[.iob,.imm,.imm],o_Z146,[(false,1)],[],[(.ptr yR)]⟩
abbrev o_Z139:Ty:=(.cons yI .nil)
def sg_Z139:Sig:=⟨[(false,1),(false,1),(false,1)],[],o_Z139,[(false,1)],[],[]⟩
abbrev o_Z114:Ty:=(.cons yI .nil)
def sg_Z114:Sig:=⟨[(false,1),(false,1)],[],o_Z114,[(false,1)],[],[]⟩
abbrev o_Z94:Ty:=(.cons yI (.cons .bool .nil))
def sg_Z94:Sig:=⟨[(false,1),(false,1),(false,1)],[],o_Z94,[(false,1),(false,1)],[],[]⟩
abbrev o_Z58:Ty:=(.cons .bool .nil)
def sg_Z58:Sig:=⟨[(true,4),(false,1),(false,1),(false,1)],[],o_Z58,[(false,1)],[],[]⟩
abbrev o_Z69:Ty:=yM
def sg_Z69:Sig:=⟨[(true,4),(true,4)],[],o_Z69,[(true,4)],[.imm,.imm,.imm,.deep],[]⟩
abbrev o_Z13:Ty:=(.cons .bool .nil)
def sg_Z13:Sig:=⟨[(true,4),(true,4)],[],o_Z13,[(false,1)],[],[]⟩
abbrev o_Z89:Ty:=(.cons yI .nil)
def sg_Z89:Sig:=⟨[(false,1),(false,1)],[],o_Z89,[(false,1)],[],[]⟩
abbrev o_Z132:Ty:=(.cons .bool .nil)
def sg_Z132:Sig:=⟨[(false,1),(false,1)],[],o_Z132,[(false,1)],[],[]⟩
abbrev o_Z122:Ty:=yC
def sg_Z122:Sig:=⟨[(false,1),(false,1)],[.io true,.imm],o_Z122,[],[],[]⟩
abbrev o_Z97:Ty:=yC
def sg_Z97:Sig:=⟨[(false,1),(false,1)],[.take true,.imm],o_Z97,[(false,1)],[.deep],[]⟩
abbrev o_Z131:Ty:=(.cons .bool .nil)
def sg_Z131:Sig:=⟨[(false,1),(false,1),(false,1)],[],o_Z131,[(false,1)],[],[]⟩
abbrev o_Z64:Ty:=(.cons .bool .nil)
def sg_Z64:Sig:=⟨[(false,1)],[],o_Z64,[(false,1)],[],[]⟩
abbrev o_Z110:Ty:=(.cons yL .nil)
def sg_Z110:Sig:=⟨[(false,1),(false,1)],[.take true,.imm],o_Z110,[(false,1)],[.deep],[]⟩
abbrev o_Z26:Ty:=(.cons .bool .nil)
def sg_Z26:Sig:=⟨[(false,1),(false,1)],[],o_Z26,[(false,1)],[],[]⟩
abbrev o_Z83:Ty:=(.cons yI .nil)
def sg_Z83:Sig:=⟨[(false,1),(false,1),(false,1)],[],o_Z83,[(false,1)],[],[.nil,.nil,(.ptr yM)]⟩
abbrev o_Z53:Ty:=(.cons yI .nil)
def sg_Z53:Sig:=⟨[(true,4),(false,1)],[],o_Z53,[(false,1)],[],[]⟩
abbrev o_Z37:Ty:=(.cons yL (.cons .bool .nil))
def sg_Z37:Sig:=⟨[(true,3),(false,1)],[],o_Z37,[(false,1),(false,1)],[.deep,.imm],[]⟩
abbrev o_Z60:Ty:=(.cons .bool .nil)
def sg_Z60:Sig:=⟨[(false,1)],[],o_Z60,[(false,1)],[],[]⟩
abbrev o_Z23:Ty:=(.cons .bool .nil)
def sg_Z23:Sig:=⟨[(false,1)],[],o_Z23,[(false,1)],[],[]⟩
abbrev o_Z62:Ty:=(.cons .bool .nil)
def sg_Z62:Sig:=⟨[(false,1)],[],o_Z62,[(false,1)],[],[]⟩
abbrev o_Z2:Ty:=(.cons yI .nil)
def sg_Z2:Sig:=⟨[(false,1)],[],o_Z2,[(false,1)],[],[]⟩
abbrev o_Z0:Ty:=(.cons yI .nil)
def sg_Z0:Sig:=⟨[(false,1),(false,1)],[],o_Z0,[(false,1)],[],[]⟩
abbrev o_Z98:Ty:=(.cons yI .nil)
def sg_Z98:Sig:=⟨[(false,1),(false,1)],[],o_Z98,[(false,1)],[],[]⟩
abbrev o_Z111:Ty:=(.cons yI .nil)
def sg_Z111:Sig:=⟨[(false,1),(false,1)],[],o_Z111,[(false,1)],[],[]⟩
abbrev o_Z43:Ty:=(.cons .bool .nil)
def sg_Z43:Sig:=⟨[(false,1),(false,1)],[],o_Z43,[(false,1)],[],[.nil,(.ptr (.cons yI .nil))]⟩
abbrev o_Z57:Ty:=(.cons yI .nil)
def sg_Z57:Sig:=⟨[(false,1),(false,1)],[],o_Z57,[(false,1)],[],[]⟩
abbrev o_Z151:Ty:=(.cons (.ptr yC) .nil)
def sg_Z151:Sig:=⟨[(false,1),(false,1)],[.iob,.imm],o_Z151,[],[],[(.ptr yC)]⟩
abbrev o_Z130:Ty:=(.cons yL .nil)
def sg_Z130:Sig:=⟨[(false,1),(false,1)],[],o_Z130,[(false,1)],[.deep],[]⟩
abbrev o_Z19:Ty:=(.cons .bool .nil)
def sg_Z19:Sig:=⟨[(true,4)],[],o_Z19,[(false,1)],[],[]⟩
abbrev o_Z70:Ty:=(.cons yI .nil)
def sg_Z70:Sig:=⟨[(false,1),(false,1),(false,1),(false,1)],[],o_Z70,[(false,1)],[],[.nil,.nil,(.ptr yM),(.ptr yC)]⟩
abbrev o_Z27:Ty:=(.cons .bool .nil)
def sg_Z27:Sig:=⟨[(false,1),(false,1)],[],o_Z27,[(false,1)],[],[.nil,(.ptr (.cons yI .nil))]⟩
abbrev o_Z59:Ty:=(.cons .bool .nil)
def sg_Z59:Sig:=⟨[(false,1),(false,1)],[],o_Z59,[(false,1)],[],[]⟩
abbrev o_Z66:Ty:=(.cons yL .nil)
def sg_Z66:Sig:=⟨[(true,3)],[],o_Z66,[(false,1)],[.deep],[]⟩
abbrev o_Z3:Ty:=(.cons .bool .nil)
def sg_Z3:Sig:=⟨[(false,1)],[],o_Z3,[(false,1)],[],[]⟩
abbrev o_Z1:Ty:=(.cons yI .nil)
def sg_Z1:Sig:=⟨[(false,1),(false,1)],[],o_Z1,[(false,1)],[],[]⟩
abbrev o_Z68:Ty:=(.cons yI .nil)
def sg_Z68:Sig:=⟨[(false,1),(false,1),(false,1)],[],o_Z68,[(false,1)],[],[]⟩
abbrev o_Z61:Ty:=(.cons .bool .nil)
def sg_Z61:Sig:=⟨[(false,1)],[],o_Z61,[(false,1)],[],[]⟩
abbrev o_Z67:Ty:=(.cons .bool .nil)
def sg_Z67:Sig:=⟨[(false,1)],[],o_Z67,[(false,1)],[],[]⟩
abbrev o_Z4:Ty:=(.cons .bool .nil)
def sg_Z4:Sig:=⟨[(false,1)],[],o_Z4,[(false,1)],[],[]⟩
def pol_Z90:Pol:=⟨211,[],[(9,⟨[1,5,6,7,9,10,11],[5,44,45],[],[],[],[],[]⟩),(13,⟨[1,5,6,7,9,10,12],[5,44,45],[],[],[],[],[]⟩),(34,⟨[28,30,31],[],[],[],[],[],[]⟩)],[],[(1000144,⟨[1,5,6,144],[5],[],[],[],[],[]⟩),(1000182,⟨[28,30,182],[],[],[],[],[],[]⟩),(1000208,⟨[28,30,31,208],[],[],[],[],[],[]⟩)],[]⟩
def pol_Z92:Pol:=⟨15,[],[],[],[],[]⟩
def pol_Z91:Pol:=⟨25,[],[],[],[(1000014,⟨[0,1,2,14],[],[],[],[],[],[]⟩)],[]⟩
def pol_Z93:Pol:=⟨28,[],[(4,⟨[0,1,5],[],[],[],[],[],[]⟩)],[],[],[]⟩
def pol_Z5:Pol:=⟨25,[],[(5,⟨[1,4,9],[1,18],[(4,18,yI,true)],[],[],[],[]⟩)],[],[],[]⟩
def pol_Z6:Pol:=⟨44,[(37,[some 41,none,some 42,some 43])],[],[],[(1000008,⟨[3,4,5,6,8],[3,4,5,6],[],[],[],[],[]⟩)],[]⟩
def pol_Z124:Pol:=⟨10,[(5,[some 9])],[],[],[],[]⟩
def pol_Z125:Pol:=⟨10,[(5,[some 9])],[],[],[],[]⟩
def pol_Z126:Pol:=⟨16,[(12,[some 15])],[],[],[],[]⟩
def pol_Z123:Pol:=⟨24,[],[],[],[(4,⟨[0,1,6],[],[],[],[],[],[]⟩),(1000015,⟨[0,1,6,15],[],[],[],[],[],[]⟩)],[]⟩
def pol_Z14:Pol:=⟨50,[(43,[some 47,none,some 48,some 49])],[],[],[(1000017,⟨[3,4,5,6,17],[3,4,5,6],[],[],[],[],[]⟩),(1000030,⟨[3,4,5,6,8,30],[3,4,5,6,8],[],[],[4],[],[]⟩)],[]⟩
def pol_Z8:Pol:=⟨21,[],[],[],[],[]⟩
def pol_Z11:Pol:=⟨52,[(34,[some 48]),(43,[some 49,none,some 50,some 51])],[],[],[(1000018,⟨[2,3,4,5,8,18],[4,5,8],[],[],[],[],[]⟩),(1000031,⟨[2,3,4,5,8,31],[4,5,8],[],[],[],[],[]⟩)],[]⟩
def pol_Z127:Pol:=⟨7,[],[],[],[],[]⟩
def pol_Z33:Pol:=⟨20,[(11,[some 18]),(12,[some 19])],[],[],[],[]⟩
def pol_Z144:Pol:=⟨6,[],[],[],[],[]⟩
def pol_Z136:Pol:=⟨22,[],[],[],[],[]⟩
def pol_Z31:Pol:=⟨23,[(16,[none,none,some 22])],[],[],[],[]⟩
def pol_Z32:Pol:=⟨103,[(24,[none,none,none,some 102])],[(3,⟨[1,2,4,5,29,30,31],[2,4,5,102],[],[],[],[],[]⟩),(7,⟨[1,2,4,5,7,29,30,31,40,41,42],[2,4,5,102],[],[],[],[],[]⟩),(12,⟨[1,2,4,5,7,8,10,11,12,29,30,31,40,41,42,58,59],[2,4,5,10,102],[],[],[],[],[]⟩),(15,⟨[1,2,4,5,7,8,10,11,12,13,29,30,31,40,41,42,58,59,63,64],[2,4,5,10,102],[],[],[],[],[]⟩)],[],[(2,⟨[1,2,4,5],[2,4,5,102],[],[],[],[],[]⟩),(22,⟨[4,5],[4,5,102],[],[],[],[],[]⟩)],[]⟩
def pol_Z24:Pol:=⟨38,[],[(3,⟨[0,1,2,3,9,12,13],[31],[(9,31,yI,true)],[],[],[],[]⟩)],[],[],[]⟩
def pol_Z78:Pol:=⟨6,[],[],[],[],[]⟩
def pol_Z17:Pol:=⟨41,[],[(2,⟨[1,6,7,8],[1],[],[],[1],[],[]⟩)],[],[(1000030,⟨[1,3,4,6,7,8,30],[1,3],[],[],[],[],[]⟩)],[]⟩
def pol_Z81:Pol:=⟨31,[],[(3,⟨[2,5,11,12,13],[2],[],[],[],[],[]⟩)],[],[],[]⟩
def pol_Z65:Pol:=⟨69,[(12,[some 68])],[(5,⟨[1,3,4,6,23,24],[1,61,68],[(6,61,yL,true)],[],[],[],[]⟩),(11,⟨[1,3,4,6,7,8,23,24,36,37,38],[1,32,61,68],[],[],[],[],[]⟩)],[],[],[]⟩
def pol_Z20:Pol:=⟨19,[],[(4,⟨[0,3],[],[],[],[],[],[]⟩)],[],[],[]⟩
def pol_Z86:Pol:=⟨18,[],[],[],[],[]⟩
def pol_Z28:Pol:=⟨28,[],[(4,⟨[1,2,16],[2],[],[],[],[],[]⟩)],[],[(1000015,⟨[1,2,15],[2],[],[],[],[],[]⟩)],[]⟩
def pol_Z44:Pol:=⟨19,[],[(3,⟨[1,5,8,9],[14],[(5,14,yI,true)],[],[],[],[]⟩)],[],[],[]⟩
def pol_Z73:Pol:=⟨44,[(14,[some 42]),(17,[some 43]),(31,[none,none,none,some 41])],[(3,⟨[3,8,9,20,21,22],[8,9,33,42,43],[],[(9,3,33,(.st yM),true)],[],[],[]⟩)],[],[],[]⟩
def pol_Z7:Pol:=⟨14,[(7,[none,none,none,some 13])],[],[],[],[]⟩
def pol_Z84:Pol:=⟨12,[(8,[none,none,none,some 11])],[],[],[],[]⟩
def pol_Z150:Pol:=⟨66,[],[(4,⟨[0,3],[],[],[],[],[],[]⟩),(10,⟨[0,3,4,5],[],[],[],[],[],[]⟩)],[],[(1000047,⟨[0,3,4,47],[],[],[],[],[],[]⟩),(1000056,⟨[0,3,4,5,56],[],[],[],[],[],[]⟩)],[]⟩
def pol_Z145:Pol:=⟨49,[],[(9,⟨[0,2,3,4,5],[2,24,48],[],[],[],[24],[]⟩)],[],[(14,⟨[2,3],[2,24,48],[],[],[],[],[]⟩)],[]⟩
def pol_Z141:Pol:=⟨7,[],[],[],[],[]⟩
def pol_Z149:Pol:=⟨35,[],[(3,⟨[0,1,5,6],[7],[],[],[],[],[]⟩)],[],[],[]⟩
def pol_Z137:Pol:=⟨15,[],[],[],[],[]⟩
def pol_Z138:Pol:=⟨12,[],[],[],[],[]⟩
def pol_Z77:Pol:=⟨29,[],[(3,⟨[1,5,9,10,11],[24],[(5,24,yI,true)],[],[],[],[]⟩)],[],[],[]⟩
def pol_Z102:Pol:=⟨11,[],[],[],[],[]⟩
def pol_Z15:Pol:=⟨11,[],[],[],[],[]⟩
def pol_Z16:Pol:=⟨39,[(12,[none,none,none,some 38])],[],[],[],[]⟩
def pol_Z56:Pol:=⟨19,[],[],[],[],[]⟩
def pol_Z121:Pol:=⟨21,[],[(2,⟨[0,1,7,8],[],[],[],[],[],[]⟩)],[],[],[]⟩
def pol_Z21:Pol:=⟨73,[],[(5,⟨[1,3,27,28,29],[1],[],[],[],[],[]⟩)],[],[(1000023,⟨[1,23],[1],[],[],[],[],[]⟩),(1000061,⟨[1,3,27,28,29,61],[1],[],[],[],[],[]⟩)],[]⟩
def pol_Z87:Pol:=⟨90,[],[(2,⟨[1,15,16,17],[1],[],[],[],[],[]⟩),(8,⟨[1,6,7,8,15,16,17,31,32],[1],[],[],[],[],[]⟩),(11,⟨[1,6,7,8,9,10,15,16,17,31,32],[1],[],[],[],[],[]⟩)],[],[(14,⟨[1,6,7,8,9,10,11,15,16,17,31,32],[1,11],[],[],[],[],[]⟩),(15,⟨[1,6,7,8,9,10,11,12,15,16,17,31,32],[1,11,12],[],[],[],[],[]⟩)],[]⟩
def pol_Z12:Pol:=⟨23,[(16,[none,none,none,some 22])],[],[],[],[]⟩
def pol_Z88:Pol:=⟨15,[(10,[none,none,none,some 14])],[],[],[],[]⟩
def pol_Z72:Pol:=⟨24,[(14,[some 23])],[(3,⟨[1,3,6,7],[1,16],[(3,16,yL,true)],[],[],[],[]⟩)],[],[],[]⟩
def pol_Z54:Pol:=⟨14,[(5,[some 12]),(9,[some 13])],[],[],[],[]⟩
def pol_Z109:Pol:=⟨28,[],[(4,⟨[0,1,12,13],[],[],[],[],[],[]⟩)],[],[],[]⟩
def pol_Z152:Pol:=⟨11,[],[],[],[],[]⟩
def pol_Z148:Pol:=⟨27,[],[(2,⟨[0,1,5],[],[],[],[],[],[]⟩)],[],[],[]⟩
def pol_Z63:Pol:=⟨7,[],[],[],[],[]⟩
def pol_Z99:Pol:=⟨38,[(24,[some 37])],[(3,⟨[0,3,9,10,11],[],[],[],[],[],[]⟩),(11,⟨[6,25,26,27],[37],[],[],[],[],[]⟩)],[],[],[]⟩
def pol_Z133:Pol:=⟨14,[],[],[],[],[]⟩
def pol_Z79:Pol:=⟨6,[],[],[],[],[]⟩
def pol_Z128:Pol:=⟨18,[],[],[],[],[]⟩
def pol_Z134:Pol:=⟨63,[],[],[],[(4,⟨[0,3],[62],[],[],[],[],[]⟩)],[]⟩
def pol_Z82:Pol:=⟨16,[(10,[none,none,none,some 15])],[],[],[],[]⟩
def pol_Z80:Pol:=⟨32,[(11,[some 30]),(25,[some 31])],[],[],[],[]⟩
def pol_Z34:Pol:=⟨11,[(5,[some 10])],[],[],[],[]⟩
def pol_Z41:Pol:=⟨32,[],[(3,⟨[0,1,2,7,10,11],[],[],[],[],[],[]⟩)],[],[],[]⟩
def pol_Z10:Pol:=⟨22,[],[],[],[],[]⟩
def pol_Z45:Pol:=⟨29,[],[(3,⟨[2,5,13,14,15],[2,24],[(5,24,yI,true)],[],[],[],[]⟩)],[],[],[]⟩
def pol_Z40:Pol:=⟨22,[],[],[],[],[]⟩
def pol_Z52:Pol:=⟨41,[],[(3,⟨[1,2,5,18,19,20],[2],[],[],[],[],[]⟩)],[],[],[]⟩
def pol_Z9:Pol:=⟨23,[],[],[],[],[]⟩
def pol_Z25:Pol:=⟨12,[],[],[],[],[]⟩
def pol_Z135:Pol:=⟨11,[],[],[],[],[]⟩
def pol_Z129:Pol:=⟨7,[],[],[],[],[]⟩
def pol_Z36:Pol:=⟨18,[],[],[],[],[]⟩
def pol_Z38:Pol:=⟨21,[(14,[some 20])],[(3,⟨[3,6,7,8],[16],[(3,16,yL,true)],[],[],[],[]⟩)],[],[],[]⟩
def pol_Z22:Pol:=⟨21,[],[],[],[],[]⟩
def pol_Z35:Pol:=⟨17,[],[],[],[],[]⟩
def pol_Z100:Pol:=⟨11,[],[],[],[],[]⟩
def pol_Z46:Pol:=⟨29,[(22,[some 28])],[(3,⟨[0,3,6,7],[24],[(3,24,yL,true)],[],[],[],[]⟩)],[],[],[]⟩
def pol_Z18:Pol:=⟨16,[],[],[],[],[]⟩
def pol_Z42:Pol:=⟨125,[(77,[some 123]),(110,[some 124])],[(4,⟨[0,1,2,8,9,16,17],[116,120],[(8,116,yI,true)],[],[],[],[]⟩),(17,⟨[0,1,2,8,9,10,11,16,17,79,80,81],[10,116,120],[],[],[],[],[]⟩)],[],[(13,⟨[0,1,2,8,9,10,11,16,17],[10,116,120],[],[],[],[],[]⟩),(16,⟨[0,1,2,8,9,10,11,16,17],[10,116,120],[],[],[],[],[]⟩),(1000095,⟨[0,1,2,8,9,10,11,14,15,16,17,79,80,81,95],[10,116,120],[],[],[],[],[]⟩)],[]⟩
def pol_Z108:Pol:=⟨11,[],[],[],[],[]⟩
def pol_Z71:Pol:=⟨14,[],[],[],[],[]⟩
def pol_Z29:Pol:=⟨7,[],[],[],[],[]⟩
def pol_Z96:Pol:=⟨9,[],[],[],[(1000004,⟨[0,4],[],[],[],[],[],[]⟩)],[]⟩
def pol_Z30:Pol:=⟨33,[],[(3,⟨[1,3,9,10],[1,28],[(3,28,(.st (.cons yI (.cons yI (.cons yI .nil)))),true)],[],[],[],[]⟩),(6,⟨[1,3,4,9,10,15,16,17],[1,28],[(3,28,(.st (.cons yI (.cons yI (.cons yI .nil)))),true)],[],[],[],[]⟩)],[],[],[]⟩
def pol_Z39:Pol:=⟨13,[(5,[some 12])],[],[],[],[]⟩
def pol_Z47:Pol:=⟨40,[],[(3,⟨[2,3,8,9,16,17],[8,9,31],[],[(9,3,31,yI,true)],[],[],[]⟩),(6,⟨[2,3,8,9,10,16,17,20,21],[8,9,31],[],[(9,3,31,yI,true)],[],[],[]⟩)],[],[],[]⟩
def pol_Z85:Pol:=⟨10,[],[],[],[],[]⟩
def pol_Z142:Pol:=⟨42,[],[(4,⟨[0,1,5],[],[],[],[],[],[]⟩)],[],[],[]⟩
def pol_Z147:Pol:=⟨19,[(9,[some 18])],[],[],[],[]⟩
def pol_Z140:Pol:=⟨19,[],[(4,⟨[0,3],[],[],[],[],[],[]⟩)],[],[],[]⟩
def pol_Z143:Pol:=⟨20,[],[(3,⟨[0,2,3,4],[2,3],[],[],[],[],[(3,0)]⟩)],[],[],[]⟩
def pol_Z146:Pol:=⟨27,[],[(3,⟨[0,1,7,8],[24],[],[],[],[],[(1000007,0)]⟩)],[],[],[]⟩
def pol_Z139:Pol:=⟨31,[],[(2,⟨[0,1,2,7],[],[],[],[],[],[]⟩)],[],[],[]⟩
def pol_Z114:Pol:=⟨21,[],[(2,⟨[0,1,7,8],[],[],[],[],[],[]⟩)],[],[],[]⟩
def pol_Z94:Pol:=⟨52,[],[(3,⟨[0,1,2,8,9,10],[],[],[],[],[],[]⟩)],[],[],[]⟩
def pol_Z58:Pol:=⟨36,[],[],[],[],[]⟩
def pol_Z69:Pol:=⟨25,[(15,[none,none,none,some 24])],[],[],[],[]⟩
def pol_Z13:Pol:=⟨39,[],[],[],[],[]⟩
def pol_Z89:Pol:=⟨7,[],[],[],[],[]⟩
def pol_Z132:Pol:=⟨28,[],[(4,⟨[0,1,5],[],[],[],[],[],[]⟩)],[],[],[]⟩
def pol_Z131:Pol:=⟨41,[],[(2,⟨[0,1,2,7],[],[],[],[],[],[]⟩)],[],[(1000037,⟨[0,1,2,7,37],[],[],[],[],[],[]⟩)],[]⟩
def pol_Z64:Pol:=⟨6,[],[],[],[],[]⟩
def pol_Z26:Pol:=⟨11,[],[],[],[],[]⟩
def pol_Z83:Pol:=⟨13,[],[],[],[],[]⟩
def pol_Z53:Pol:=⟨32,[],[(3,⟨[5,12,13,14],[],[],[],[],[],[]⟩)],[],[],[]⟩
def pol_Z37:Pol:=⟨53,[],[(4,⟨[1,2,6,7,12,13,14],[2,25],[(6,25,yI,true)],[],[],[],[]⟩)],[],[],[]⟩
def pol_Z60:Pol:=⟨21,[],[(2,⟨[0,3],[],[],[],[],[],[]⟩)],[],[],[]⟩
def pol_Z23:Pol:=⟨7,[],[],[],[],[]⟩
def pol_Z62:Pol:=⟨6,[],[],[],[],[]⟩
def pol_Z2:Pol:=⟨19,[],[(3,⟨[3,6,7,8],[],[],[],[],[],[]⟩)],[],[],[]⟩
def pol_Z0:Pol:=⟨22,[],[],[],[],[]⟩
def pol_Z98:Pol:=⟨38,[],[(2,⟨[0,1,9,10,11],[],[],[],[],[],[]⟩)],[],[],[]⟩
def pol_Z111:Pol:=⟨21,[],[(2,⟨[0,1,7,8],[],[],[],[],[],[]⟩)],[],[],[]⟩
def pol_Z43:Pol:=⟨11,[],[],[],[],[]⟩
def pol_Z57:Pol:=⟨12,[],[],[],[],[]⟩
def pol_Z151:Pol:=⟨74,[(57,[some 73])],[(2,⟨[0,1,4],[71],[],[],[],[],[]⟩),(6,⟨[0,1,5],[71],[],[],[],[],[]⟩)],[],[(1000019,⟨[0,1,4,19],[71],[],[],[],[],[]⟩),(1000044,⟨[0,1,5,44],[71],[],[],[],[],[]⟩)],[]⟩
def pol_Z130:Pol:=⟨51,[],[(4,⟨[0,1,5,6,7],[8],[],[],[],[],[]⟩)],[],[(10,⟨[0,1,5,6,7],[8],[],[],[],[],[]⟩),(1000024,⟨[0,1,5,6,7,24],[8],[],[],[],[],[]⟩)],[]⟩
def pol_Z19:Pol:=⟨38,[],[],[],[],[]⟩
def pol_Z70:Pol:=⟨21,[],[],[],[],[]⟩
def pol_Z27:Pol:=⟨10,[],[],[],[],[]⟩
def pol_Z59:Pol:=⟨11,[],[],[],[],[]⟩
def pol_Z66:Pol:=⟨23,[],[(3,⟨[3,7,8,9],[17],[(3,17,yI,true)],[],[],[],[]⟩)],[],[],[]⟩
def pol_Z3:Pol:=⟨7,[],[],[],[],[]⟩
def pol_Z1:Pol:=⟨22,[],[],[],[],[]⟩
def pol_Z68:Pol:=⟨29,[],[(2,⟨[0,1,2,7],[],[],[],[],[],[]⟩)],[],[],[]⟩
def pol_Z61:Pol:=⟨6,[],[],[],[],[]⟩
def pol_Z67:Pol:=⟨6,[],[],[],[],[]⟩
def pol_Z4:Pol:=⟨7,[],[],[],[],[]⟩
def sigL:List (Option Sig):=[none,none,none,none,none,none,some sg_Z90,none,none,none,none,some sg_Z92,none,some sg_Z91,none,none,none,none,none,some sg_Z93,none,none,none,none,none,none,none,none,none,none,some sg_Z5,none,none,none,some sg_Z6,none,some sg_Z124,some sg_Z125,some sg_Z126,some sg_Z123,some sg_Z14,some sg_Z8,some sg_Z11,none,none,none,none,none,none,none,none,none,none,none,none,none,none,none,none,none,none,none,none,none,none,none,none,none,none,none,none,none,none,none,none,none,none,none,some sg_Z127,none,none,some sg_Z33,none,some sg_Z144,none,some sg_Z136,none,none,none,some sg_Z31,none,none,none,none,none,some sg_Z32,some sg_Z24,none,none,none,none,none,none,some sg_Z78,some sg_Z55,none,none,none,some sg_Z17,none,none,some sg_Z81,some sg_Z65,some sg_Z20,some sg_Z86,some sg_Z28,some sg_Z44,some sg_Z73,some sg_Z7,some sg_Z84,some sg_Z150,none,none,some sg_Z145,some sg_Z141,some sg_Z149,some sg_Z137,some sg_Z138,some sg_Z77,some sg_Z102,some sg_Z15,some sg_Z16,some sg_Z56,some sg_Z121,some sg_Z21,some sg_Z87,some sg_Z12,some sg_Z88,none,none,none,none,none,some sg_Z72,none,none,none,none,none,none,none,none,none,none,some sg_Z54,some sg_Z109,some sg_Z152,some sg_Z148,none,none,none,none,none,none,none,none,none,none,some sg_Z63,none,none,none,none,none,none,some sg_Z99,none,none,none,some sg_Z133,none,some sg_Z79,none,none,none,none,none,none,none,none,none,none,none,none,none,none,none,some sg_Z128,some sg_Z134,none,none,some sg_Z82,some sg_Z80,some sg_Z34,none,none,none,none,none,none,none,some sg_Z41,some sg_Z10,some sg_Z45,some sg_Z40,some sg_Z52,some sg_Z9,some sg_Z25,some sg_Z135,none,none,none,some sg_Z129,none,none,some sg_Z36,some sg_Z38,none,none,some sg_Z22,some sg_Z35,some sg_Z100,some sg_Z46,some sg_Z18,none,none,none,some sg_Z42,some sg_Z108,some sg_Z71,some sg_Z29,some sg_Z96,some sg_Z30,some sg_Z39,some sg_Z47,some sg_Z85,some sg_Z142,some sg_Z147,some sg_Z140,none,some sg_Z143,some sg_Z146,some sg_Z139,some sg_Z114,some sg_Z94,some sg_Z58,some sg_Z69,some sg_Z13,some sg_Z89,none,none,none,none,none,none,none,some sg_Z132,none,none,none,none,none,some sg_Z122,some sg_Z97,some sg_Z131,none,none,none,none,none,none,some sg_Z64,none,none,none,some sg_Z110,none,none,none,none,some sg_Z26,none,some sg_Z83,some sg_Z53,none,some sg_Z37,none,none,none,none,none,some sg_Z60,some sg_Z23,some sg_Z62,some sg_Z2,some sg_Z0,some sg_Z98,some sg_Z111,none,none,some sg_Z43,some sg_Z57,some sg_Z151,some sg_Z130,some sg_Z19,some sg_Z70,none,none,none,none,none,some sg_Z27,some sg_Z59,none,some sg_Z66,none,none,some sg_Z3,some sg_Z1,none,none,none,none,none,none,none,none,none,none,none,some sg_Z68,some sg_Z61,none,none,none,none,none,none,none,none,some sg_Z67,some sg_Z4,none,none,none,none,none,none,none,none,none,none,none,none,none,none,none,none,none,none,none,none,none,none,none,none,none,none]
def fnL:List (Option (Func×Pol)):=[none,none,none,none,none,none,some (F_Z90,pol_Z90),none,none,none,none,some (F_Z92,pol_Z92),none,some (F_Z91,pol_Z91),none,none,none,none,none,some (F_Z93,pol_Z93),none,none,none,none,none,none,none,none,none,none,some (F_Z5,pol_Z5),none,none,none,some (F_Z6,pol_Z6),none,some (F_Z124,pol_Z124),some (F_Z125,pol_Z125),some (F_Z126,pol_Z126),some (F_Z123,pol_Z123),some (F_Z14,pol_Z14),some (F_Z8,pol_Z8),some (F_Z11,pol_Z11),none,none,none,none,none,none,none,none,none,none,none,none,none,none,none,none,none,none,none,none,none,none,none,none,none,none,none,none,none,none,none,none,none,none,none,some (F_Z127,pol_Z127),none,none,some (F_Z33,pol_Z33),none,some (F_Z144,pol_Z144),none,some (F_Z136,pol_Z136),none,none,none,some (F_Z31,pol_Z31),none,none,none,none,none,some (F_Z32,pol_Z32),some (F_Z24,pol_Z24),none,none,none,none,none,none,some (F_Z78,pol_Z78),none,none,none,none,some (F_Z17,pol_Z17),none,none,some (F_Z81,pol_Z81),some (F_Z65,pol_Z65),some (F_Z20,pol_Z20),some (F_Z86,pol_Z86),some (F_Z28,pol_Z28),some (F_Z44,pol_Z44),some (F_Z73,pol_Z73),some (F_Z7,pol_Z7),some (F_Z84,pol_Z84),some (F_Z150,pol_Z150),none,none,some (F_Z145,pol_Z145),some (F_Z141,pol_Z141),some (F_Z149,pol_Z149),some (F_Z137,pol_Z137),some (F_Z138,pol_Z138),some (F_Z77,pol_Z77),some (F_Z102,pol_Z102),some (F_Z15,pol_Z15),some (F_Z16,pol_Z16),some (F_Z56,pol_Z56),some (F_Z121,pol_Z121),some (F_Z21,pol_Z21),some (F_Z87,pol_Z87),some (F_Z12,pol_Z12),some (F_Z88,pol_Z88),none,none,none,none,none,some (F_Z72,pol_Z72),none,none,none,none,none,none,none,none,none,none,some (F_Z54,pol_Z54),some (F_Z109,pol_Z109),some (F_Z152,pol_Z152),some (F_Z148,pol_Z148),none,none,none,none,none,none,none,none,none,none,some (F_Z63,pol_Z63),none,none,none,none,none,none,some (F_Z99,pol_Z99),none,none,none,some (F_Z133,pol_Z133),none,some (F_Z79,pol_Z79),none,none,none,none,none,none,none,none,none,none,none,none,none,none,none,some (F_Z128,pol_Z128),some (F_Z134,pol_Z134),none,none,some (F_Z82,pol_Z82),some (F_Z80,pol_Z80),some (F_Z34,pol_Z34),none,none,none,none,none,none,none,some (F_Z41,pol_Z41),some (F_Z10,pol_Z10),some (F_Z45,pol_Z45),some (F_Z40,pol_Z40),some (F_Z52,pol_Z52),some (F_Z9,pol_Z9),some (F_Z25,pol_Z25),some (F_Z135,pol_Z135),none,none,none,some (F_Z129,pol_Z129),none,none,some (F_Z36,pol_Z36),some (F_Z38,pol_Z38),none,none,some (F_Z22,pol_Z22),some (F_Z35,pol_Z35),some (F_Z100,pol_Z100),some (F_Z46,pol_Z46),some (F_Z18,pol_Z18),none,none,none,some (F_Z42,pol_Z42),some (F_Z108,pol_Z108),some (F_Z71,pol_Z71),some (F_Z29,pol_Z29),some (F_Z96,pol_Z96),some (F_Z30,pol_Z30),some (F_Z39,pol_Z39),some (F_Z47,pol_Z47),some (F_Z85,pol_Z85),some (F_Z142,pol_Z142),some (F_Z147,pol_Z147),some (F_Z140,pol_Z140),none,some (F_Z143,pol_Z143),some (F_Z146,pol_Z146),some (F_Z139,pol_Z139),some (F_Z114,pol_Z114),some (F_Z94,pol_Z94),some (F_Z58,pol_Z58),some (F_Z69,pol_Z69),some (F_Z13,pol_Z13),some (F_Z89,pol_Z89),none,none,none,none,none,none,none,some (F_Z132,pol_Z132),none,none,none,none,none,none,none,some (F_Z131,pol_Z131),none,none,none,none,none,none,some (F_Z64,pol_Z64),none,none,none,none,none,none,none,none,some (F_Z26,pol_Z26),none,some (F_Z83,pol_Z83),some (F_Z53,pol_Z53),none,some (F_Z37,pol_Z37),none,none,none,none,none,some (F_Z60,pol_Z60),some (F_Z23,pol_Z23),some (F_Z62,pol_Z62),some (F_Z2,pol_Z2),some (F_Z0,pol_Z0),some (F_Z98,pol_Z98),some (F_Z111,pol_Z111),none,none,some (F_Z43,pol_Z43),some (F_Z57,pol_Z57),some (F_Z151,pol_Z151),some (F_Z130,pol_Z130),some (F_Z19,pol_Z19),some (F_Z70,pol_Z70),none,none,none,none,none,some (F_Z27,pol_Z27),some (F_Z59,pol_Z59),none,some (F_Z66,pol_Z66),none,none,some (F_Z3,pol_Z3),some (F_Z1,pol_Z1),none,none,none,none,none,none,none,none,none,none,none,some (F_Z68,pol_Z68),some (F_Z61,pol_Z61),none,none,none,none,none,none,none,none,some (F_Z67,pol_Z67),some (F_Z4,pol_Z4),none,none,none,none,none,none,none,none,none,none,none,none,none,none,none,none,none,none,none,none,none,none,none,none,none,none]
def primL:List (Option (Run→List Dv→Option Dv)):=[none,none,none,none,none,none,none,none,none,none,none,none,none,none,none,none,none,none,none,none,none,none,none,none,none,none,none,none,none,none,none,none,none,none,none,none,none,none,none,none,none,none,none,none,none,none,none,none,none,none,none,none,none,none,none,none,none,none,none,none,none,none,none,none,none,none,none,none,none,none,none,none,none,none,none,none,none,none,none,none,none,none,none,none,none,none,none,none,none,none,none,none,none,none,none,none,none,none,none,none,none,none,none,none,some (qgq n_Z36 n_Z38 n_Z80),none,none,none,none,none,none,none,none,none,none,none,none,none,none,none,none,none,none,none,none,none,none,none,none,none,none,none,none,none,none,none,none,none,none,none,none,none,none,none,none,none,none,none,none,none,none,none,none,none,none,none,none,none,none,none,none,none,none,none,none,none,none,none,none,none,none,none,none,none,none,none,none,none,none,none,none,none,none,none,none,none,none,none,none,none,none,none,none,none,none,none,none,none,none,none,none,none,none,none,none,none,none,none,none,none,none,none,none,none,none,none,none,none,none,none,none,none,none,none,none,none,none,none,none,none,none,none,none,none,none,none,none,none,none,none,none,none,none,none,none,none,none,none,none,none,none,none,none,none,none,none,none,none,none,none,none,none,none,none,none,none,none,none,none,none,none,none,some (qgr n_Z35),some (qdh n_Z109),none,none,none,none,none,none,none,none,none,none,none,some (qmy yI),none,none,none,none,none,none,none,none,none,none,none,none,none,none,none,none,none,none,none,none,none,none,none,none,none,none,none,none,none,none,none,none,none,none,none,none,none,none,none,none,none,none,none,none,none,none,none,none,none,none,none,none,none,none,none,none,none,none,none,none,none,none,none,none,none,none,none,none,none,none,none,none,none,none,none,none,none,none,none,none,none,none,none,none,none,none,none,none,none,none,none,none]
def E:Env:={ P:=Tryz.prog,fn:=fun f=>fnL.getD f none,prim:=fun f=>primL.getD f none,sig:=fun f=>sigL.getD f none }
theorem sig_laws_FnSquares_eq:E.sig n_Z90=some sg_Z90:=rfl
abbrev RT(f:Nat)(s:Sig)(q:Pol)(F:Func):Prop:=∀ n args,run E (n+1) f args=qqm E (mkR (run E n)) s q F n args
theorem run_Z90:RT n_Z90 sg_Z90 pol_Z90 F_Z90:=fun _ _=>rfl
theorem run_Z92:RT n_Z92 sg_Z92 pol_Z92 F_Z92:=fun _ _=>rfl
theorem run_Z91:RT n_Z91 sg_Z91 pol_Z91 F_Z91:=fun _ _=>rfl
theorem run_Z93:RT n_Z93 sg_Z93 pol_Z93 F_Z93:=fun _ _=>rfl
theorem run_Z5:RT n_Z5 sg_Z5 pol_Z5 F_Z5:=fun _ _=>rfl
theorem run_Z6:RT n_Z6 sg_Z6 pol_Z6 F_Z6:=fun _ _=>rfl
theorem run_Z124:RT n_Z124 sg_Z124 pol_Z124 F_Z124:=fun _ _=>rfl
theorem run_Z125:RT n_Z125 sg_Z125 pol_Z125 F_Z125:=fun _ _=>rfl
theorem run_Z126:RT n_Z126 sg_Z126 pol_Z126 F_Z126:=fun _ _=>rfl
theorem run_Z123:RT n_Z123 sg_Z123 pol_Z123 F_Z123:=fun _ _=>rfl
theorem run_Z14:RT n_Z14 sg_Z14 pol_Z14 F_Z14:=fun _ _=>rfl
theorem run_Z8:RT n_Z8 sg_Z8 pol_Z8 F_Z8:=fun _ _=>rfl
theorem run_Z11:RT n_Z11 sg_Z11 pol_Z11 F_Z11:=fun _ _=>rfl
theorem run_Z127:RT n_Z127 sg_Z127 pol_Z127 F_Z127:=fun _ _=>rfl
theorem run_Z33:RT n_Z33 sg_Z33 pol_Z33 F_Z33:=fun _ _=>rfl
theorem run_Z144:RT n_Z144 sg_Z144 pol_Z144 F_Z144:=fun _ _=>rfl
theorem run_Z136:RT n_Z136 sg_Z136 pol_Z136 F_Z136:=fun _ _=>rfl
theorem run_Z31:RT n_Z31 sg_Z31 pol_Z31 F_Z31:=fun _ _=>rfl
theorem run_Z32:RT n_Z32 sg_Z32 pol_Z32 F_Z32:=fun _ _=>rfl
theorem run_Z24:RT n_Z24 sg_Z24 pol_Z24 F_Z24:=fun _ _=>rfl
theorem run_Z78:RT n_Z78 sg_Z78 pol_Z78 F_Z78:=fun _ _=>rfl
theorem sig_impl_independent_eq:E.sig n_Z55=some sg_Z55:=rfl
theorem run_Z17:RT n_Z17 sg_Z17 pol_Z17 F_Z17:=fun _ _=>rfl
theorem run_Z81:RT n_Z81 sg_Z81 pol_Z81 F_Z81:=fun _ _=>rfl
theorem run_Z65:RT n_Z65 sg_Z65 pol_Z65 F_Z65:=fun _ _=>rfl
theorem run_Z20:RT n_Z20 sg_Z20 pol_Z20 F_Z20:=fun _ _=>rfl
theorem run_Z86:RT n_Z86 sg_Z86 pol_Z86 F_Z86:=fun _ _=>rfl
theorem run_Z28:RT n_Z28 sg_Z28 pol_Z28 F_Z28:=fun _ _=>rfl
theorem run_Z44:RT n_Z44 sg_Z44 pol_Z44 F_Z44:=fun _ _=>rfl
theorem run_Z73:RT n_Z73 sg_Z73 pol_Z73 F_Z73:=fun _ _=>rfl
theorem run_Z7:RT n_Z7 sg_Z7 pol_Z7 F_Z7:=fun _ _=>rfl
theorem run_Z84:RT n_Z84 sg_Z84 pol_Z84 F_Z84:=fun _ _=>rfl
theorem run_Z150:RT n_Z150 sg_Z150 pol_Z150 F_Z150:=fun _ _=>rfl
theorem run_Z145:RT n_Z145 sg_Z145 pol_Z145 F_Z145:=fun _ _=>rfl
theorem run_Z141:RT n_Z141 sg_Z141 pol_Z141 F_Z141:=fun _ _=>rfl
theorem run_Z149:RT n_Z149 sg_Z149 pol_Z149 F_Z149:=fun _ _=>rfl
theorem run_Z137:RT n_Z137 sg_Z137 pol_Z137 F_Z137:=fun _ _=>rfl
theorem run_Z138:RT n_Z138 sg_Z138 pol_Z138 F_Z138:=fun _ _=>rfl
theorem run_Z77:RT n_Z77 sg_Z77 pol_Z77 F_Z77:=fun _ _=>rfl
theorem run_Z102:RT n_Z102 sg_Z102 pol_Z102 F_Z102:=fun _ _=>rfl
theorem run_Z15:RT n_Z15 sg_Z15 pol_Z15 F_Z15:=fun _ _=>rfl
theorem run_Z16:RT n_Z16 sg_Z16 pol_Z16 F_Z16:=fun _ _=>rfl
theorem run_Z56:RT n_Z56 sg_Z56 pol_Z56 F_Z56:=fun _ _=>rfl
theorem run_Z121:RT n_Z121 sg_Z121 pol_Z121 F_Z121:=fun _ _=>rfl
theorem run_Z21:RT n_Z21 sg_Z21 pol_Z21 F_Z21:=fun _ _=>rfl
theorem run_Z87:RT n_Z87 sg_Z87 pol_Z87 F_Z87:=fun _ _=>rfl
theorem run_Z12:RT n_Z12 sg_Z12 pol_Z12 F_Z12:=fun _ _=>rfl
theorem run_Z88:RT n_Z88 sg_Z88 pol_Z88 F_Z88:=fun _ _=>rfl
theorem run_Z72:RT n_Z72 sg_Z72 pol_Z72 F_Z72:=fun _ _=>rfl
theorem run_Z54:RT n_Z54 sg_Z54 pol_Z54 F_Z54:=fun _ _=>rfl
theorem run_Z109:RT n_Z109 sg_Z109 pol_Z109 F_Z109:=fun _ _=>rfl
theorem run_Z152:RT n_Z152 sg_Z152 pol_Z152 F_Z152:=fun _ _=>rfl
theorem run_Z148:RT n_Z148 sg_Z148 pol_Z148 F_Z148:=fun _ _=>rfl
theorem run_Z63:RT n_Z63 sg_Z63 pol_Z63 F_Z63:=fun _ _=>rfl
theorem run_Z99:RT n_Z99 sg_Z99 pol_Z99 F_Z99:=fun _ _=>rfl
theorem run_Z133:RT n_Z133 sg_Z133 pol_Z133 F_Z133:=fun _ _=>rfl
theorem run_Z79:RT n_Z79 sg_Z79 pol_Z79 F_Z79:=fun _ _=>rfl
theorem run_Z128:RT n_Z128 sg_Z128 pol_Z128 F_Z128:=fun _ _=>rfl
theorem run_Z134:RT n_Z134 sg_Z134 pol_Z134 F_Z134:=fun _ _=>rfl
theorem run_Z82:RT n_Z82 sg_Z82 pol_Z82 F_Z82:=fun _ _=>rfl
theorem run_Z80:RT n_Z80 sg_Z80 pol_Z80 F_Z80:=fun _ _=>rfl
theorem run_Z34:RT n_Z34 sg_Z34 pol_Z34 F_Z34:=fun _ _=>rfl
theorem run_Z41:RT n_Z41 sg_Z41 pol_Z41 F_Z41:=fun _ _=>rfl
theorem run_Z10:RT n_Z10 sg_Z10 pol_Z10 F_Z10:=fun _ _=>rfl
theorem run_Z45:RT n_Z45 sg_Z45 pol_Z45 F_Z45:=fun _ _=>rfl
theorem run_Z40:RT n_Z40 sg_Z40 pol_Z40 F_Z40:=fun _ _=>rfl
theorem run_Z52:RT n_Z52 sg_Z52 pol_Z52 F_Z52:=fun _ _=>rfl
theorem run_Z9:RT n_Z9 sg_Z9 pol_Z9 F_Z9:=fun _ _=>rfl
theorem run_Z25:RT n_Z25 sg_Z25 pol_Z25 F_Z25:=fun _ _=>rfl
theorem run_Z135:RT n_Z135 sg_Z135 pol_Z135 F_Z135:=fun _ _=>rfl
theorem run_Z129:RT n_Z129 sg_Z129 pol_Z129 F_Z129:=fun _ _=>rfl
theorem run_Z36:RT n_Z36 sg_Z36 pol_Z36 F_Z36:=fun _ _=>rfl
theorem run_Z38:RT n_Z38 sg_Z38 pol_Z38 F_Z38:=fun _ _=>rfl
theorem run_Z22:RT n_Z22 sg_Z22 pol_Z22 F_Z22:=fun _ _=>rfl
theorem sig_impl_compareSimplices_eq:E.sig n_Z35=some sg_Z35:=rfl
theorem run_Z35:RT n_Z35 sg_Z35 pol_Z35 F_Z35:=fun _ _=>rfl
theorem run_Z100:RT n_Z100 sg_Z100 pol_Z100 F_Z100:=fun _ _=>rfl
theorem run_Z46:RT n_Z46 sg_Z46 pol_Z46 F_Z46:=fun _ _=>rfl
theorem run_Z18:RT n_Z18 sg_Z18 pol_Z18 F_Z18:=fun _ _=>rfl
theorem run_Z42:RT n_Z42 sg_Z42 pol_Z42 F_Z42:=fun _ _=>rfl
theorem run_Z108:RT n_Z108 sg_Z108 pol_Z108 F_Z108:=fun _ _=>rfl
theorem run_Z71:RT n_Z71 sg_Z71 pol_Z71 F_Z71:=fun _ _=>rfl
theorem run_Z29:RT n_Z29 sg_Z29 pol_Z29 F_Z29:=fun _ _=>rfl
theorem run_Z96:RT n_Z96 sg_Z96 pol_Z96 F_Z96:=fun _ _=>rfl
theorem run_Z30:RT n_Z30 sg_Z30 pol_Z30 F_Z30:=fun _ _=>rfl
theorem run_Z39:RT n_Z39 sg_Z39 pol_Z39 F_Z39:=fun _ _=>rfl
theorem run_Z47:RT n_Z47 sg_Z47 pol_Z47 F_Z47:=fun _ _=>rfl
theorem run_Z85:RT n_Z85 sg_Z85 pol_Z85 F_Z85:=fun _ _=>rfl
theorem run_Z142:RT n_Z142 sg_Z142 pol_Z142 F_Z142:=fun _ _=>rfl
theorem run_Z147:RT n_Z147 sg_Z147 pol_Z147 F_Z147:=fun _ _=>rfl
theorem run_Z140:RT n_Z140 sg_Z140 pol_Z140 F_Z140:=fun _ _=>rfl
theorem run_Z143:RT n_Z143 sg_Z143 pol_Z143 F_Z143:=fun _ _=>rfl
theorem run_Z146:RT n_Z146 sg_Z146 pol_Z146 F_Z146:=fun _ _=>rfl
theorem run_Z139:RT n_Z139 sg_Z139 pol_Z139 F_Z139:=fun _ _=>rfl
theorem run_Z114:RT n_Z114 sg_Z114 pol_Z114 F_Z114:=fun _ _=>rfl
theorem run_Z94:RT n_Z94 sg_Z94 pol_Z94 F_Z94:=fun _ _=>rfl
theorem run_Z58:RT n_Z58 sg_Z58 pol_Z58 F_Z58:=fun _ _=>rfl
theorem run_Z69:RT n_Z69 sg_Z69 pol_Z69 F_Z69:=fun _ _=>rfl
theorem run_Z13:RT n_Z13 sg_Z13 pol_Z13 F_Z13:=fun _ _=>rfl
theorem run_Z89:RT n_Z89 sg_Z89 pol_Z89 F_Z89:=fun _ _=>rfl
theorem run_Z132:RT n_Z132 sg_Z132 pol_Z132 F_Z132:=fun _ _=>rfl
theorem sig_slices_SortFunc_SSint64_Sint64_eq:E.sig n_Z122=some sg_Z122:=rfl
theorem sig_slices_CompactFunc_SSint64_Sint64_eq:E.sig n_Z97=some sg_Z97:=rfl
theorem run_Z131:RT n_Z131 sg_Z131 pol_Z131 F_Z131:=fun _ _=>rfl
theorem run_Z64:RT n_Z64 sg_Z64 pol_Z64 F_Z64:=fun _ _=>rfl
theorem sig_slices_Grow_Sint64_int64_eq:E.sig n_Z110=some sg_Z110:=rfl
theorem run_Z26:RT n_Z26 sg_Z26 pol_Z26 F_Z26:=fun _ _=>rfl
theorem run_Z83:RT n_Z83 sg_Z83 pol_Z83 F_Z83:=fun _ _=>rfl
theorem run_Z53:RT n_Z53 sg_Z53 pol_Z53 F_Z53:=fun _ _=>rfl
theorem run_Z37:RT n_Z37 sg_Z37 pol_Z37 F_Z37:=fun _ _=>rfl
theorem run_Z60:RT n_Z60 sg_Z60 pol_Z60 F_Z60:=fun _ _=>rfl
theorem run_Z23:RT n_Z23 sg_Z23 pol_Z23 F_Z23:=fun _ _=>rfl
theorem run_Z62:RT n_Z62 sg_Z62 pol_Z62 F_Z62:=fun _ _=>rfl
theorem run_Z2:RT n_Z2 sg_Z2 pol_Z2 F_Z2:=fun _ _=>rfl
theorem run_Z0:RT n_Z0 sg_Z0 pol_Z0 F_Z0:=fun _ _=>rfl
theorem run_Z98:RT n_Z98 sg_Z98 pol_Z98 F_Z98:=fun _ _=>rfl
theorem run_Z111:RT n_Z111 sg_Z111 pol_Z111 F_Z111:=fun _ _=>rfl
theorem run_Z43:RT n_Z43 sg_Z43 pol_Z43 F_Z43:=fun _ _=>rfl
theorem run_Z57:RT n_Z57 sg_Z57 pol_Z57 F_Z57:=fun _ _=>rfl
theorem run_Z151:RT n_Z151 sg_Z151 pol_Z151 F_Z151:=fun _ _=>rfl
theorem run_Z130:RT n_Z130 sg_Z130 pol_Z130 F_Z130:=fun _ _=>rfl
theorem run_Z19:RT n_Z19 sg_Z19 pol_Z19 F_Z19:=fun _ _=>rfl
theorem run_Z70:RT n_Z70 sg_Z70 pol_Z70 F_Z70:=fun _ _=>rfl
theorem run_Z27:RT n_Z27 sg_Z27 pol_Z27 F_Z27:=fun _ _=>rfl
theorem run_Z59:RT n_Z59 sg_Z59 pol_Z59 F_Z59:=fun _ _=>rfl
theorem run_Z66:RT n_Z66 sg_Z66 pol_Z66 F_Z66:=fun _ _=>rfl
theorem run_Z3:RT n_Z3 sg_Z3 pol_Z3 F_Z3:=fun _ _=>rfl
theorem run_Z1:RT n_Z1 sg_Z1 pol_Z1 F_Z1:=fun _ _=>rfl
theorem run_Z68:RT n_Z68 sg_Z68 pol_Z68 F_Z68:=fun _ _=>rfl
theorem run_Z61:RT n_Z61 sg_Z61 pol_Z61 F_Z61:=fun _ _=>rfl
theorem run_Z67:RT n_Z67 sg_Z67 pol_Z67 F_Z67:=fun _ _=>rfl
theorem run_Z4:RT n_Z4 sg_Z4 pol_Z4 F_Z4:=fun _ _=>rfl
abbrev eC(R:Run)(q:Pol)(N:Nat)(l:List Nat)(F:Func):=qbb E R q N (sub l (bodyOf F))
abbrev kB(R:Run)(q:Pol)(k:Nat)(K:Kt):=qqn (qbP R q.blkM k) k K
abbrev kS(R:Run)(q:Pol)(k N:Nat)(l:List Nat)(F:Func)(K:Kt):=qql (qbP R q.seqM k) (qbb E R q N (sub l (bodyOf F))) K
abbrev kL(R:Run)(q:Pol)(k N:Nat)(l:List Nat)(F:Func)(n:Nat)(K:Kt):=qra (qbb E R q N (sub l (bodyOf F))) (qbP R q.loopM k) n K
abbrev lC(R:Run)(q:Pol)(k N:Nat)(l:List Nat)(F:Func)(n:Nat)(s:Ve.St)(K:Kt):=qkZ (qbb E R q N (sub l (bodyOf F))) (qbP R q.loopM k) n s K
end
end VeT

open Go Go.Proofs Ve
set_option maxRecDepth 100000
namespace VeT
noncomputable section
abbrev q0_0(R:Run)(N:Nat):=kS R pol_Z130 11 N [1,1,1,1] F_Z130
abbrev q0_1(R:Run)(N:Nat):=kS R pol_Z150 5 N [1,1,0,1,0,0,1,1] F_Z150
abbrev q0_2(R:Run)(N:Nat):=kS R pol_Z150 14 N [1,1,1] F_Z150
abbrev q0_3(R:Run)(N:Nat):=kS R pol_Z114 7 N [1,1] F_Z114
abbrev q0_4(R:Run)(N:Nat):=kL R pol_Z150 4 N [1,1,0,1,0,0] F_Z150
abbrev q0_5(R:Run)(N:Nat):=lC R pol_Z114 2 N [1,0,1,0,0] F_Z114
abbrev q0_6(R:Run):=kB R pol_Z114 0
theorem Z92.ev(R:Run)(N:Nat)(a0 a1:List Int):qqm E R sg_Z92 pol_Z92 F_Z92 N [⟨(.sl (.int .u8)),a0⟩,⟨(.sl (.int .u8)),a1⟩]=(bif (decide ((List.length a0:Int)>(1048576:Int))) then some ⟨o_Z92,(true,())⟩ else some ⟨o_Z92,((decide ((List.length a1:Int)>(1048576:Int))),())⟩):=by kernel_rfl
theorem Z127.ev(R:Run)(N:Nat)(a0:List Int):qqm E R sg_Z127 pol_Z127 F_Z127 N [⟨(.sl (.int .u8)),a0⟩]=some ⟨o_Z127,((a0,(0:Int),(0:Int),()),())⟩:=by kernel_rfl
def Z134.j0(R:Run)(N:Nat)(a:Int)(b:List Int)(e f:Int):Option Dv:=R.w (some ⟨(.c (.box 62 0)::(V.dead::(V.dead::(.c (.d yI a)::(zd 58 []))))),(zo 62 (some (.box [.d (.sl (.int .u8)) b,.d yI e,.d (.int .u64) f] false true)::[]))⟩) fun st=>eC R pol_Z134 N [1,1,1] F_Z134 st (qqQ E sg_Z134 F_Z134)
theorem Z134.j0_eq(R:Run)(hw:R.ok)(N:Nat)(a:Int)(b:List Int)(c d:Int):Z134.j0 R N a b c d=(bif (decide ((w64 (c+(1:Int)))≤(List.length b:Int))) then some ⟨o_Z134,(a,(b,(w64 (c+(1:Int))),(IntKind.wrap .u64 ((IntKind.wrap .u64 ((IntKind.wrap .u64 (d*(6364136223846793005:Int)))+(IntKind.wrap .u64 (a))))+(1442695040888963407:Int))),()),())⟩ else((chk (decide (0≤(40:Int)))).bind fun _=>some ⟨o_Z134,((w64 ((IntKind.wrap .u64 (BitVec.toNat (BitVec.ofInt (IntKind.bits .u64) (Int.fdiv (IntKind.wrap .u64 ((IntKind.wrap .u64 ((IntKind.wrap .u64 (d*(6364136223846793005:Int)))+(IntKind.wrap .u64 (a))))+(1442695040888963407:Int))) (2 ^ (min (Int.toNat (40:Int)) (IntKind.bits .u64)))) &&& BitVec.ofInt (IntKind.bits .u64) (255:Int)))))),(b,(w64 (c+(1:Int))),(IntKind.wrap .u64 ((IntKind.wrap .u64 ((IntKind.wrap .u64 (d*(6364136223846793005:Int)))+(IntKind.wrap .u64 (a))))+(1442695040888963407:Int))),()),())⟩)):=(hw _ _).trans (by kernel_rfl)
theorem Z134.ev(R:Run)(N:Nat)(a0:((List Int)×Int×Int×Unit)):qqm E R sg_Z134 pol_Z134 F_Z134 N [⟨(.ptr yR),a0⟩]=(bif (decide (a0.2.1<(List.length a0.1:Int))) then((idx? a0.1 a0.2.1).bind fun y1=>(Z134.j0 R N (w64 ((y1,()).1)) a0.1 a0.2.1 a0.2.2.1)) else(Z134.j0 R N (0:Int) a0.1 a0.2.1 a0.2.2.1)):=by kernel_rfl
theorem Z136.ev(R:Run)(N:Nat)(a0:((List Int)×Int×Int×Unit))(a1:Int):qqm E R sg_Z136 pol_Z136 F_Z136 N [⟨(.ptr yR),a0⟩,⟨yI,a1⟩]=(bif (decide (a1≤(1:Int))) then some ⟨o_Z136,((0:Int),(a0.1,a0.2.1,a0.2.2.1,()),())⟩ else((qce R n_Z134 o_Z134 [⟨(.ptr yR),(a0.1,a0.2.1,a0.2.2.1,())⟩]).bind fun r1=>(bif (decide (a1>(200:Int))) then((qce R n_Z134 o_Z134 [⟨(.ptr yR),(r1.2.1.1,r1.2.1.2.1,r1.2.1.2.2.1,())⟩]).bind fun r2=>((chk (a1 != 0)).bind fun _=>some ⟨o_Z136,((Int.tmod (w64 ((w64 (r1.1*(256:Int)))+r2.1)) a1),(r2.2.1.1,r2.2.1.2.1,r2.2.1.2.2.1,()),())⟩)) else((chk (a1 != 0)).bind fun _=>some ⟨o_Z136,((Int.tmod r1.1 a1),(r1.2.1.1,r1.2.1.2.1,r1.2.1.2.2.1,()),())⟩)))):=by kernel_rfl
def Z132.l0(R:Run)(N n:Nat)(a b:List Int)(e:Int):Option Dv:=R.w (some ⟨(.c (.d yL a)::(.c (.d yL b)::(zd 3 (.c (.d yI e)::(zd 20 []))))),(zo 28 [])⟩) fun st=>lC R pol_Z132 4 N [1,1,0,1,0,0] F_Z132 n st (kB R pol_Z132 0 (kS R pol_Z132 8 N [1,1,1] F_Z132 (qqQ E sg_Z132 F_Z132)))
theorem Z132.l0_succ(R:Run)(hw:R.ok)(N n:Nat)(a b:List Int)(c:Int):Z132.l0 R N (n+1) a b c=(bif (decide (c<(List.length a:Int))) then((idx? a c).bind fun y4=>((idx? b c).bind fun y5=>(bif ((y4,()).1 != (y5,()).1) then some ⟨o_Z132,(false,())⟩ else(Z132.l0 R N n a b (w64 (c+(1:Int))))))) else some ⟨o_Z132,(true,())⟩):=(hw _ _).trans (by kernel_rfl)
theorem Z132.ev(R:Run)(N:Nat)(a0 a1:List Int):qqm E R sg_Z132 pol_Z132 F_Z132 N [⟨yL,a0⟩,⟨yL,a1⟩]=(bif ((List.length a0:Int) != (List.length a1:Int)) then some ⟨o_Z132,(false,())⟩ else(Z132.l0 R N N a0 a1 (0:Int))):=by kernel_rfl
def Z148.l0(R:Run)(N n:Nat)(a:(vK×Unit))(b:List Int)(e:Int):Option Dv:=R.w (some ⟨(.c (.ip yC a 0)::(.c (.d yL b)::(zd 3 (.c (.d yI e)::(zd 19 []))))),(zo 27 [])⟩) fun st=>lC R pol_Z148 2 N [1,0,1,0,0] F_Z148 n st (kB R pol_Z148 0 (kS R pol_Z148 6 N [1,1] F_Z148 (qqQ E sg_Z148 F_Z148)))
theorem Z148.l0_succ(R:Run)(hw:R.ok)(N n:Nat)(a:(vK×Unit))(b:List Int)(c:Int):Z148.l0 R N (n+1) a b c=(bif (decide (c<(List.length a.1:Int))) then((idx? a.1 c).bind fun y4=>((qce R n_Z132 o_Z132 [⟨yL,(y4,()).1⟩,⟨yL,b⟩]).bind fun r5=>(bif r5.1 then some ⟨o_Z148,(c,())⟩ else(Z148.l0 R N n a b (w64 (c+(1:Int))))))) else some ⟨o_Z148,((-1:Int),())⟩):=(hw _ _).trans (by kernel_rfl)
theorem Z148.ev(R:Run)(N:Nat)(a0:(vK×Unit))(a1:List Int):qqm E R sg_Z148 pol_Z148 F_Z148 N [⟨(.ptr yC),a0⟩,⟨yL,a1⟩]=(Z148.l0 R N N a0 a1 (0:Int)):=by kernel_rfl
theorem Z129.ev(R:Run)(N:Nat)(a0:List Int):qqm E R sg_Z129 pol_Z129 F_Z129 N [⟨yL,a0⟩]=((chk (decide ((List.length ([]:List Int)+List.length a0)*8≤70368744177664))).bind fun _=>some ⟨o_Z129,((([]:List Int)++a0),())⟩):=by kernel_rfl
theorem Z147.ev(R:Run)(N:Nat)(a0:List Int)(a1:Int):qqm E R sg_Z147 pol_Z147 F_Z147 N [⟨yL,a0⟩,⟨yI,a1⟩]=((chk (decide (0≤a1)&&decide (a1≤(List.length a0:Int)))).bind fun _=>((qce R n_Z129 o_Z129 [⟨yL,(List.take (Int.toNat a1) a0)⟩]).bind fun r1=>((chk (decide (0≤(w64 (a1+(1:Int))))&&decide ((w64 (a1+(1:Int)))≤(List.length a0:Int)))).bind fun _=>((chk (decide ((List.length r1.1+List.length (List.drop (Int.toNat (w64 (a1+(1:Int)))) a0))*8≤70368744177664))).bind fun _=>some ⟨o_Z147,((r1.1++(List.drop (Int.toNat (w64 (a1+(1:Int)))) a0)),())⟩)))):=by kernel_rfl
def Z142.l0(R:Run)(N n:Nat)(a b:List Int)(e:Int):Option Dv:=R.w (some ⟨(.c (.d yL a)::(.c (.d yL b)::(zd 3 (.c (.d yI e)::(zd 34 []))))),(zo 42 [])⟩) fun st=>lC R pol_Z142 4 N [1,1,0,1,0,0] F_Z142 n st (kB R pol_Z142 0 (kS R pol_Z142 8 N [1,1,1] F_Z142 (qqQ E sg_Z142 F_Z142)))
theorem Z142.l0_succ(R:Run)(hw:R.ok)(N n:Nat)(a b:List Int)(c:Int):Z142.l0 R N (n+1) a b c=(bif (decide (c<(List.length a:Int))) then((idx? a c).bind fun y4=>((idx? b c).bind fun y5=>(bif ((y4,()).1 != (y5,()).1) then((idx? a c).bind fun y6=>((idx? b c).bind fun y7=>some ⟨o_Z142,((decide ((y6,()).1<(y7,()).1)),())⟩)) else(Z142.l0 R N n a b (w64 (c+(1:Int))))))) else some ⟨o_Z142,(false,())⟩):=(hw _ _).trans (by kernel_rfl)
theorem Z142.ev(R:Run)(N:Nat)(a0 a1:List Int):qqm E R sg_Z142 pol_Z142 F_Z142 N [⟨yL,a0⟩,⟨yL,a1⟩]=(bif ((List.length a0:Int) != (List.length a1:Int)) then some ⟨o_Z142,((decide ((List.length a0:Int)<(List.length a1:Int))),())⟩ else(Z142.l0 R N N a0 a1 (0:Int))):=by kernel_rfl
def Z151.j3(R:Run)(N a:Nat)(b:List Int)(e:Int)(f:Bool)(g:vK):Option Dv:=R.w (some ⟨(.c (.box 71 0)::(.c (.d yL b)::(zd 3 (.c (.d yI e)::(zd 38 (.c (.d .bool f)::(zd 26 []))))))),(zo 71 (some (.box [.d yK g] false true)::(none::(none::[]))))⟩) fun st=>eC R pol_Z151 N [1,1,1,0,0,0,0,1] F_Z151 st (kS R pol_Z151 7 N [1,1,1,0,0,0,1] F_Z151 (kL R pol_Z151 6 N [1,1,1,0,0,0] F_Z151 a (kB R pol_Z151 2 (kS R pol_Z151 8 N [1,1,1,1] F_Z151 (qqQ E sg_Z151 F_Z151)))))
def Z151.l2(R:Run)(N n:Nat)(a:List Int)(b:Int)(e:vK):Option Dv:=R.w (some ⟨(.c (.box 71 0)::(.c (.d yL a)::(zd 3 (.c (.d yI b)::(zd 65 []))))),(zo 71 (some (.box [.d yK e] false true)::(none::(none::[]))))⟩) fun st=>lC R pol_Z151 6 N [1,1,1,0,0,0] F_Z151 n st (kB R pol_Z151 2 (kS R pol_Z151 8 N [1,1,1,1] F_Z151 (qqQ E sg_Z151 F_Z151)))
def Z151.j1(R:Run)(N a:Nat)(b:List Int)(e:Int)(f:Bool)(g:vK):Option Dv:=R.w (some ⟨(.c (.box 71 0)::(.c (.d yL b)::(V.dead::(V.dead::(.c (.d yI e)::(zd 14 (.c (.d .bool f)::(zd 51 [])))))))),(zo 71 (some (.box [.d yK g] false true)::(none::(none::[]))))⟩) fun st=>eC R pol_Z151 N [1,0,1,0,0,0,1] F_Z151 st (kS R pol_Z151 4 N [1,0,1,0,0,1] F_Z151 (kL R pol_Z151 2 N [1,0,1,0,0] F_Z151 a (kB R pol_Z151 0 (kS R pol_Z151 5 N [1,1] F_Z151 (qqQ E sg_Z151 F_Z151)))))
def Z151.l0(R:Run)(N n:Nat)(a:List Int)(b:Int)(e:vK):Option Dv:=R.w (some ⟨(.c (.box 71 0)::(.c (.d yL a)::(V.dead::(V.dead::(.c (.d yI b)::(zd 66 [])))))),(zo 71 (some (.box [.d yK e] false true)::(none::(none::[]))))⟩) fun st=>lC R pol_Z151 2 N [1,0,1,0,0] F_Z151 n st (kB R pol_Z151 0 (kS R pol_Z151 5 N [1,1] F_Z151 (qqQ E sg_Z151 F_Z151)))
theorem Z151.j3_eq(R:Run)(hw:R.ok)(N a:Nat)(b:List Int)(c:Int)(d:Bool)(e:vK):Z151.j3 R N a b c d e=(bif d then(Z151.l2 R N a b (w64 (c+(1:Int))) e) else((chk (decide (0≤c)&&decide (c≤(List.length e:Int)))).bind fun _=>((chk (decide ((List.length ([]:List (List Int))+List.length (List.take (Int.toNat c) e))*24≤70368744177664))).bind fun _=>((qce R n_Z129 o_Z129 [⟨yL,b⟩]).bind fun r26=>((chk (decide ((List.length (([]:List (List Int))++(List.take (Int.toNat c) e))+List.length [r26.1])*24≤70368744177664))).bind fun _=>((chk (decide (0≤c)&&decide (c≤(List.length e:Int)))).bind fun _=>((chk (decide ((List.length ((([]:List (List Int))++(List.take (Int.toNat c) e))++[r26.1])+List.length (List.drop (Int.toNat c) e))*24≤70368744177664))).bind fun _=>some ⟨o_Z151,(((((([]:List (List Int))++(List.take (Int.toNat c) e))++[r26.1])++(List.drop (Int.toNat c) e)),()),())⟩))))))):=(hw _ _).trans (by kernel_rfl)
theorem Z151.l2_succ(R:Run)(hw:R.ok)(N n:Nat)(a:List Int)(b:Int)(c:vK):Z151.l2 R N (n+1) a b c=(bif (decide (b<(List.length c:Int))) then((idx? c b).bind fun y17=>((qce R n_Z142 o_Z142 [⟨yL,(y17,()).1⟩,⟨yL,a⟩]).bind fun r18=>(Z151.j3 R N n a b r18.1 c))) else(Z151.j3 R N n a b false c)):=(hw _ _).trans (by kernel_rfl)
theorem Z151.j1_eq(R:Run)(hw:R.ok)(N a:Nat)(b:List Int)(c:Int)(d:Bool)(e:vK):Z151.j1 R N a b c d e=(bif d then((qce R n_Z147 o_Z147 [⟨yL,b⟩,⟨yI,c⟩]).bind fun r9=>((qce R n_Z151 o_Z151 [⟨(.ptr yC),(e,())⟩,⟨yL,r9.1⟩]).bind fun r10=>(Z151.l0 R N a b (w64 (c+(1:Int))) r10.1.1))) else(Z151.l2 R N N b (0:Int) e)):=(hw _ _).trans (by kernel_rfl)
theorem Z151.l0_succ(R:Run)(hw:R.ok)(N n:Nat)(a:List Int)(b:Int)(c:vK):Z151.l0 R N (n+1) a b c=(bif (decide (b<(List.length a:Int))) then(Z151.j1 R N n a b (decide ((List.length a:Int)>(1:Int))) c) else(Z151.j1 R N n a b false c)):=(hw _ _).trans (by kernel_rfl)
theorem Z151.ev(R:Run)(N:Nat)(a0:(vK×Unit))(a1:List Int):qqm E R sg_Z151 pol_Z151 F_Z151 N [⟨(.ptr yC),a0⟩,⟨yL,a1⟩]=((qce R n_Z148 o_Z148 [⟨(.ptr yC),(a0.1,())⟩,⟨yL,a1⟩]).bind fun r1=>(bif (decide (r1.1≥(0:Int))) then some ⟨o_Z151,((a0.1,()),())⟩ else(Z151.l0 R N N a1 (0:Int) a0.1))):=by kernel_rfl
def Z143.l0(R:Run)(N n:Nat)(a:vK)(b:Int)(e:vK):Option Dv:=R.w (some ⟨(.c (.d yK a)::(V.dead::(.c (.box 2 0)::(.c (.box 3 0)::(.c (.d yI b)::(zd 14 [])))))),(none::(none::(some (.box [.nils yL] false false)::(some (.box [.d yK e] false false)::(zo 16 [])))))⟩) fun st=>lC R pol_Z143 3 N [1,1,0,1,0,0] F_Z143 n st (kB R pol_Z143 0 (kS R pol_Z143 6 N [1,1,1] F_Z143 (qqQ E sg_Z143 F_Z143)))
theorem Z143.l0_succ(R:Run)(hw:R.ok)(N n:Nat)(a:vK)(b:Int)(c:vK):Z143.l0 R N (n+1) a b c=(bif (decide (b<(List.length a:Int))) then((idx? a b).bind fun y4=>((qce R n_Z151 o_Z151 [⟨(.ptr yC),(c,())⟩,⟨yL,(y4,()).1⟩]).bind fun r5=>(Z143.l0 R N n a (w64 (b+(1:Int))) r5.1.1))) else some ⟨o_Z143,(c,())⟩):=(hw _ _).trans (by kernel_rfl)
theorem Z143.ev(R:Run)(N:Nat)(a0:vK):qqm E R sg_Z143 pol_Z143 F_Z143 N [⟨yK,a0⟩]=(Z143.l0 R N N a0 (0:Int) ([]:List (List Int))):=by kernel_rfl
def Z130.j2(R:Run)(N a:Nat)(b:List Int)(e:Int)(f:Bool)(g:Int)(h:List Int):Option Dv:=R.w (some ⟨(.c (.d yL b)::(.c (.d yI e)::(zd 3 (.c (.arr 8)::(.c (.d .bool f)::(.c (.d yI g)::(zd 41 []))))))),(zo 8 (some (.arr yI h true false false)::(zo 42 [])))⟩) fun st=>eC R pol_Z130 N [1,1,1,0,1,0,0,1,0,0,1] F_Z130 st (kB R pol_Z130 1 (kS R pol_Z130 5 N [1,1,1,0,1,0,0,1,1] F_Z130 (kL R pol_Z130 4 N [1,1,1,0,1,0,0] F_Z130 a (kB R pol_Z130 0 (q0_0 R N (qqQ E sg_Z130 F_Z130))))))
def Z130.j1(R:Run)(N a:Nat)(b:List Int)(e:Int)(f:Bool)(g:Int)(h:Bool)(i:List Int):Option Dv:=R.w (some ⟨(.c (.d yL b)::(.c (.d yI e)::(zd 3 (.c (.arr 8)::(.c (.d .bool f)::(.c (.d yI g)::(zd 16 (.c (.d .bool h)::(zd 24 []))))))))),(zo 8 (some (.arr yI i true false false)::(zo 42 [])))⟩) fun st=>eC R pol_Z130 N [1,1,1,0,1,0,0,1,0,0,0,1] F_Z130 st (kS R pol_Z130 10 N [1,1,1,0,1,0,0,1,0,0,1] F_Z130 (kB R pol_Z130 1 (kS R pol_Z130 5 N [1,1,1,0,1,0,0,1,1] F_Z130 (kL R pol_Z130 4 N [1,1,1,0,1,0,0] F_Z130 a (kB R pol_Z130 0 (q0_0 R N (qqQ E sg_Z130 F_Z130)))))))
def Z130.l0(R:Run)(N n:Nat)(a:List Int)(b:Int)(e:Bool)(f:Int)(g:List Int):Option Dv:=R.w (some ⟨(.c (.d yL a)::(.c (.d yI b)::(zd 3 (.c (.arr 8)::(.c (.d .bool e)::(.c (.d yI f)::(zd 41 []))))))),(zo 8 (some (.arr yI g true false false)::(zo 42 [])))⟩) fun st=>lC R pol_Z130 4 N [1,1,1,0,1,0,0] F_Z130 n st (kB R pol_Z130 0 (q0_0 R N (qqQ E sg_Z130 F_Z130)))
theorem Z130.j2_eq(R:Run)(hw:R.ok)(N a:Nat)(b:List Int)(c:Int)(d:Bool)(e:Int)(f:List Int):Z130.j2 R N a b c d e f=((idx? b e).bind fun y19=>((chk (decide ((List.length f+List.length [(y19,()).1])*8≤70368744177664))).bind fun _=>(Z130.l0 R N a b c d (w64 (e+(1:Int))) (f++[(y19,()).1])))):=(hw _ _).trans (by kernel_rfl)
theorem Z130.j1_eq(R:Run)(hw:R.ok)(N a:Nat)(b:List Int)(c:Int)(d:Bool)(e:Int)(f:Bool)(g:List Int):Z130.j1 R N a b c d e f g=(bif f then((idx? b e).bind fun y13=>(bif (decide ((y13,()).1>c)) then((chk (decide ((List.length g+List.length [c])*8≤70368744177664))).bind fun _=>(Z130.j2 R N a b c true e (g++[c]))) else(Z130.j2 R N a b c true e g))) else(Z130.j2 R N a b c d e g)):=(hw _ _).trans (by kernel_rfl)
theorem Z130.l0_succ(R:Run)(hw:R.ok)(N n:Nat)(a:List Int)(b:Int)(c:Bool)(d:Int)(e:List Int):Z130.l0 R N (n+1) a b c d e=(bif (decide (d<(List.length a:Int))) then(bif (!c) then((idx? a d).bind fun y6=>(Z130.j1 R N n a b c d (decide ((y6,()).1≥b)) e)) else(Z130.j1 R N n a b c d false e)) else(bif (!c) then((chk (decide ((List.length e+List.length [b])*8≤70368744177664))).bind fun _=>some ⟨o_Z130,((e++[b]),())⟩) else some ⟨o_Z130,(e,())⟩)):=(hw _ _).trans (by kernel_rfl)
theorem Z130.ev(R:Run)(N:Nat)(a0:List Int)(a1:Int):qqm E R sg_Z130 pol_Z130 F_Z130 N [⟨yL,a0⟩,⟨yI,a1⟩]=(Z130.l0 R N N a0 a1 false (0:Int) ([]:List Int)):=by kernel_rfl
def Z146.l0(R:Run)(N n:Nat)(a:Int)(b:List Int)(e:Int)(f:List Int)(g h:Int):Option Dv:=R.w (some ⟨(.c (.box 24 0)::(.c (.d yI a)::(zd 5 (.c (.d yL b)::(.c (.d yI e)::(zd 15 [])))))),(zo 24 (some (.box [.d (.sl (.int .u8)) f,.d yI g,.d (.int .u64) h] false true)::(none::(none::[]))))⟩) fun st=>lC R pol_Z146 3 N [1,1,0,1,0,0] F_Z146 n st (kB R pol_Z146 0 (kS R pol_Z146 6 N [1,1,1] F_Z146 (qqQ E sg_Z146 F_Z146)))
theorem Z146.l0_succ(R:Run)(hw:R.ok)(N n:Nat)(a:Int)(b:List Int)(c:Int)(d:List Int)(e f:Int):Z146.l0 R N (n+1) a b c d e f=(bif (decide (c>(0:Int))) then((qce R n_Z136 o_Z136 [⟨(.ptr yR),(d,e,f,())⟩,⟨yI,a⟩]).bind fun r8=>((qce R n_Z130 o_Z130 [⟨yL,b⟩,⟨yI,r8.1⟩]).bind fun r9=>(Z146.l0 R N n a r9.1 (w64 (c-(1:Int))) r8.2.1.1 r8.2.1.2.1 r8.2.1.2.2.1))) else some ⟨o_Z146,(b,(d,e,f,()),())⟩):=(hw _ _).trans (by kernel_rfl)
theorem Z146.ev(R:Run)(N:Nat)(a0:((List Int)×Int×Int×Unit))(a1 a2:Int):qqm E R sg_Z146 pol_Z146 F_Z146 N [⟨(.ptr yR),a0⟩,⟨yI,a1⟩,⟨yI,a2⟩]=((qce R n_Z136 o_Z136 [⟨(.ptr yR),(a0.1,a0.2.1,a0.2.2.1,())⟩,⟨yI,a2⟩]).bind fun r1=>(Z146.l0 R N N a1 ([]:List Int) (w64 ((1:Int)+r1.1)) r1.2.1.1 r1.2.1.2.1 r1.2.1.2.2.1)):=by kernel_rfl
theorem Z135.ev(R:Run)(N:Nat)(a0:((List Int)×Int×Int×Unit))(a1:Int):qqm E R sg_Z135 pol_Z135 F_Z135 N [⟨(.ptr yR),a0⟩,⟨yI,a1⟩]=((qce R n_Z136 o_Z136 [⟨(.ptr yR),(a0.1,a0.2.1,a0.2.2.1,())⟩,⟨yI,a1⟩]).bind fun r1=>some ⟨o_Z135,((r1.1==(0:Int)),(r1.2.1.1,r1.2.1.2.1,r1.2.1.2.2.1,()),())⟩):=by kernel_rfl
def Z145.j1(R:Run)(N:Nat)(a:vK)(b:List Int)(e f:Int):Option Dv:=R.w (some ⟨(V.dead::(V.dead::(.c (.box 2 0)::(.c (.arr 24)::(zd 44 []))))),(none::(none::(some (.box [.nils yL] false false)::(zo 21 (some (.arr yL a false false false)::(zo 23 (some (.box [.d (.sl (.int .u8)) b,.d yI e,.d (.int .u64) f] false true)::[])))))))⟩) fun st=>eC R pol_Z145 N [1,1,1,1,1,1] F_Z145 st (qqQ E sg_Z145 F_Z145)
def Z145.l0(R:Run)(N n:Nat)(a b:Int)(e:vK)(f:List Int)(g h:Int):Option Dv:=R.w (some ⟨(.c (.box 48 0)::(V.dead::(.c (.box 2 0)::(.c (.arr 24)::(.c (.d yI a)::(.c (.d yI b)::(zd 42 []))))))),(none::(none::(some (.box [.nils yL] false false)::(zo 21 (some (.arr yL e false false false)::(zo 23 (some (.box [.d (.sl (.int .u8)) f,.d yI g,.d (.int .u64) h] false true)::[])))))))⟩) fun st=>lC R pol_Z145 9 N [1,1,1,1,0,1,0,0] F_Z145 n st (kB R pol_Z145 1 (kS R pol_Z145 12 N [1,1,1,1,1] F_Z145 (qqQ E sg_Z145 F_Z145)))
theorem Z145.j1_eq(R:Run)(hw:R.ok)(N:Nat)(a:vK)(b:List Int)(c d:Int):Z145.j1 R N a b c d=((qce R n_Z143 o_Z143 [⟨yK,a⟩]).bind fun r24=>some ⟨o_Z145,(r24.1,(b,c,d,()),())⟩):=(hw _ _).trans (by kernel_rfl)
theorem Z145.l0_succ(R:Run)(hw:R.ok)(N n:Nat)(a b:Int)(c:vK)(d:List Int)(e f:Int):Z145.l0 R N (n+1) a b c d e f=(bif (decide (b>(0:Int))) then((qce R n_Z146 o_Z146 [⟨(.ptr yR),(d,e,f,())⟩,⟨yI,a⟩,⟨yI,(3:Int)⟩]).bind fun r12=>((chk (decide ((List.length c+List.length [r12.1])*24≤70368744177664))).bind fun _=>(Z145.l0 R N n a (w64 (b-(1:Int))) (c++[r12.1]) r12.2.1.1 r12.2.1.2.1 r12.2.1.2.2.1))) else((qce R n_Z135 o_Z135 [⟨(.ptr yR),(d,e,f,())⟩,⟨yI,(6:Int)⟩]).bind fun r19=>(bif r19.1 then((chk (decide ((List.length c+List.length [[(0:Int),(1:Int),(2:Int),(3:Int)]])*24≤70368744177664))).bind fun _=>(Z145.j1 R N (c++[[(0:Int),(1:Int),(2:Int),(3:Int)]]) r19.2.1.1 r19.2.1.2.1 r19.2.1.2.2.1)) else(Z145.j1 R N c r19.2.1.1 r19.2.1.2.1 r19.2.1.2.2.1)))):=(hw _ _).trans (by kernel_rfl)
theorem Z145.ev(R:Run)(N:Nat)(a0:((List Int)×Int×Int×Unit)):qqm E R sg_Z145 pol_Z145 F_Z145 N [⟨(.ptr yR),a0⟩]=((qce R n_Z136 o_Z136 [⟨(.ptr yR),(a0.1,a0.2.1,a0.2.2.1,())⟩,⟨yI,(6:Int)⟩]).bind fun r1=>(bif (r1.1==(0:Int)) then((qce R n_Z143 o_Z143 [⟨yK,[[(0:Int),(1:Int)],[(1:Int),(2:Int)],[(0:Int),(2:Int)],[(2:Int),(3:Int)]]⟩]).bind fun r2=>some ⟨o_Z145,(r2.1,(r1.2.1.1,r1.2.1.2.1,r1.2.1.2.2.1,()),())⟩) else(bif (r1.1==(1:Int)) then((qce R n_Z143 o_Z143 [⟨yK,[[(0:Int),(1:Int),(2:Int)],[(0:Int),(1:Int),(3:Int)],[(0:Int),(2:Int),(3:Int)],[(1:Int),(2:Int),(3:Int)]]⟩]).bind fun r3=>some ⟨o_Z145,(r3.1,(r1.2.1.1,r1.2.1.2.1,r1.2.1.2.2.1,()),())⟩) else((qce R n_Z136 o_Z136 [⟨(.ptr yR),(r1.2.1.1,r1.2.1.2.1,r1.2.1.2.2.1,())⟩,⟨yI,(4:Int)⟩]).bind fun r4=>((qce R n_Z136 o_Z136 [⟨(.ptr yR),(r4.2.1.1,r4.2.1.2.1,r4.2.1.2.2.1,())⟩,⟨yI,(6:Int)⟩]).bind fun r5=>(Z145.l0 R N N (w64 ((3:Int)+r4.1)) r5.1 ([]:List (List Int)) r5.2.1.1 r5.2.1.2.1 r5.2.1.2.2.1)))))):=by kernel_rfl
theorem Z124.ev(R:Run)(N:Nat)(a0:List Int):qqm E R sg_Z124 pol_Z124 F_Z124 N [⟨(.sl (.int .u8)),a0⟩]=((qce R n_Z127 o_Z127 [⟨(.sl (.int .u8)),a0⟩]).bind fun r1=>((qce R n_Z145 o_Z145 [⟨(.ptr yR),(r1.1.1,r1.1.2.1,r1.1.2.2.1,())⟩]).bind fun r2=>some ⟨o_Z124,(r2.1,())⟩)):=by kernel_rfl
theorem Z133.ev(R:Run)(N:Nat)(a0:((List Int)×Int×Int×Unit))(a1:List Int):qqm E R sg_Z133 pol_Z133 F_Z133 N [⟨(.ptr yR),a0⟩,⟨yL,a1⟩]=((qce R n_Z136 o_Z136 [⟨(.ptr yR),(a0.1,a0.2.1,a0.2.2.1,())⟩,⟨yI,(List.length a1:Int)⟩]).bind fun r1=>((idx? a1 r1.1).bind fun y2=>some ⟨o_Z133,((y2,()).1,(r1.2.1.1,r1.2.1.2.1,r1.2.1.2.2.1,()),())⟩)):=by kernel_rfl
theorem Z141.ev(R:Run)(N:Nat)(a0:((List Int)×Int×Int×Unit)):qqm E R sg_Z141 pol_Z141 F_Z141 N [⟨(.ptr yR),a0⟩]=((qce R n_Z133 o_Z133 [⟨(.ptr yR),(a0.1,a0.2.1,a0.2.2.1,())⟩,⟨yL,[(2:Int),(2:Int),(3:Int),(5:Int),(7:Int),(31:Int),(251:Int)]⟩]).bind fun r1=>some ⟨o_Z141,(r1.1,(r1.2.1.1,r1.2.1.2.1,r1.2.1.2.2.1,()),())⟩):=by kernel_rfl
theorem Z125.ev(R:Run)(N:Nat)(a0:List Int):qqm E R sg_Z125 pol_Z125 F_Z125 N [⟨(.sl (.int .u8)),a0⟩]=((qce R n_Z127 o_Z127 [⟨(.sl (.int .u8)),a0⟩]).bind fun r1=>((qce R n_Z141 o_Z141 [⟨(.ptr yR),(r1.1.1,r1.1.2.1,r1.1.2.2.1,())⟩]).bind fun r2=>some ⟨o_Z125,(r2.1,())⟩)):=by kernel_rfl
theorem Z128.ev(R:Run)(N:Nat)(a0 a1 a2:Int):qqm E R sg_Z128 pol_Z128 F_Z128 N [⟨yI,a0⟩,⟨yI,a1⟩,⟨yI,a2⟩]=(bif (decide (a0≥a1)) then some ⟨o_Z128,((decide (a0≤a2)),())⟩ else some ⟨o_Z128,(false,())⟩):=by kernel_rfl
def Z131.j1(R:Run)(N a:Nat)(b:List Int)(e f g:Int)(h:Bool):Option Dv:=R.w (some ⟨(.c (.d yL b)::(.c (.d yI e)::(.c (.d yI f)::(zd 4 (.c (.d yI g)::(zd 29 (.c (.d .bool h)::[]))))))),(zo 41 [])⟩) fun st=>eC R pol_Z131 N [1,0,1,0,0,1,0,0,1] F_Z131 st (kB R pol_Z131 1 (kS R pol_Z131 3 N [1,0,1,0,0,1,1] F_Z131 (kL R pol_Z131 2 N [1,0,1,0,0] F_Z131 a (kB R pol_Z131 0 (kS R pol_Z131 6 N [1,1] F_Z131 (qqQ E sg_Z131 F_Z131))))))
def Z131.l0(R:Run)(N n:Nat)(a:List Int)(b e f:Int):Option Dv:=R.w (some ⟨(.c (.d yL a)::(.c (.d yI b)::(.c (.d yI e)::(zd 4 (.c (.d yI f)::(zd 30 [])))))),(zo 41 [])⟩) fun st=>lC R pol_Z131 2 N [1,0,1,0,0] F_Z131 n st (kB R pol_Z131 0 (kS R pol_Z131 6 N [1,1] F_Z131 (qqQ E sg_Z131 F_Z131)))
theorem Z131.j1_eq(R:Run)(hw:R.ok)(N a:Nat)(b:List Int)(c d e:Int)(f:Bool):Z131.j1 R N a b c d e f=(bif f then some ⟨o_Z131,(false,())⟩ else(Z131.l0 R N a b c d (w64 (e+(1:Int))))):=(hw _ _).trans (by kernel_rfl)
theorem Z131.l0_succ(R:Run)(hw:R.ok)(N n:Nat)(a:List Int)(b c d:Int):Z131.l0 R N (n+1) a b c d=(bif (decide (d<(List.length a:Int))) then((idx? a d).bind fun y5=>((qce R n_Z128 o_Z128 [⟨yI,(y5,()).1⟩,⟨yI,b⟩,⟨yI,c⟩]).bind fun r6=>(bif (!r6.1) then(Z131.j1 R N n a b c d true) else(bif (decide (d>(0:Int))) then((idx? a (w64 (d-(1:Int)))).bind fun y16=>((idx? a d).bind fun y17=>(Z131.j1 R N n a b c d (decide ((y16,()).1≥(y17,()).1))))) else(Z131.j1 R N n a b c d false))))) else some ⟨o_Z131,(true,())⟩):=(hw _ _).trans (by kernel_rfl)
theorem Z131.ev(R:Run)(N:Nat)(a0:List Int)(a1 a2:Int):qqm E R sg_Z131 pol_Z131 F_Z131 N [⟨yL,a0⟩,⟨yI,a1⟩,⟨yI,a2⟩]=(Z131.l0 R N N a0 a1 a2 (0:Int)):=by kernel_rfl
theorem Z152.ev(R:Run)(N:Nat)(a0:List Int):qqm E R sg_Z152 pol_Z152 F_Z152 N [⟨yL,a0⟩]=((qce R n_Z128 o_Z128 [⟨yI,(List.length a0:Int)⟩,⟨yI,(1:Int)⟩,⟨yI,(4:Int)⟩]).bind fun r1=>(bif r1.1 then((qce R n_Z131 o_Z131 [⟨yL,a0⟩,⟨yI,(0:Int)⟩,⟨yI,(9:Int)⟩]).bind fun r2=>some ⟨o_Z152,(r2.1,())⟩) else some ⟨o_Z152,(false,())⟩)):=by kernel_rfl
def Z150.j3(R:Run)(N a b:Nat)(e:(vK×Unit))(f:Int)(g:List Int)(h:Int)(i:Bool):Option Dv:=R.w (some ⟨(.c (.ip yC e 0)::(V.dead::(V.dead::(.c (.d yI f)::(.c (.d yL g)::(.c (.d yI h)::(zd 50 (.c (.d .bool i)::(zd 8 []))))))))),(zo 66 [])⟩) fun st=>eC R pol_Z150 N [1,1,0,1,0,0,1,0,0,1,1,1,0,0,0,1] F_Z150 st (kS R pol_Z150 12 N [1,1,0,1,0,0,1,0,0,1,1,1,0,0,1] F_Z150 (kL R pol_Z150 10 N [1,1,0,1,0,0,1,0,0,1,1,1,0,0] F_Z150 b (kB R pol_Z150 2 (kB R pol_Z150 1 (q0_1 R N (q0_4 R N a (kB R pol_Z150 0 (q0_2 R N (qqQ E sg_Z150 F_Z150)))))))))
def Z150.l2(R:Run)(N a n:Nat)(b:(vK×Unit))(e:Int)(f:List Int)(g:Int):Option Dv:=R.w (some ⟨(.c (.ip yC b 0)::(V.dead::(V.dead::(.c (.d yI e)::(.c (.d yL f)::(.c (.d yI g)::(zd 59 []))))))),(zo 66 [])⟩) fun st=>lC R pol_Z150 10 N [1,1,0,1,0,0,1,0,0,1,1,1,0,0] F_Z150 n st (kB R pol_Z150 2 (kB R pol_Z150 1 (q0_1 R N (q0_4 R N a (kB R pol_Z150 0 (q0_2 R N (qqQ E sg_Z150 F_Z150)))))))
def Z150.j1(R:Run)(N a:Nat)(b:(vK×Unit))(e:Int)(f:List Int)(g:Bool):Option Dv:=R.w (some ⟨(.c (.ip yC b 0)::(V.dead::(V.dead::(.c (.d yI e)::(.c (.d yL f)::(zd 42 (.c (.d .bool g)::(zd 17 [])))))))),(zo 66 [])⟩) fun st=>eC R pol_Z150 N [1,1,0,1,0,0,1,0,0,1,0,1] F_Z150 st (kS R pol_Z150 9 N [1,1,0,1,0,0,1,0,0,1,1] F_Z150 (kB R pol_Z150 1 (q0_1 R N (q0_4 R N a (kB R pol_Z150 0 (q0_2 R N (qqQ E sg_Z150 F_Z150)))))))
def Z150.l0(R:Run)(N n:Nat)(a:(vK×Unit))(b:Int):Option Dv:=R.w (some ⟨(.c (.ip yC a 0)::(V.dead::(V.dead::(.c (.d yI b)::(zd 61 []))))),(zo 66 [])⟩) fun st=>lC R pol_Z150 4 N [1,1,0,1,0,0] F_Z150 n st (kB R pol_Z150 0 (q0_2 R N (qqQ E sg_Z150 F_Z150)))
theorem Z150.j3_eq(R:Run)(hw:R.ok)(N a b:Nat)(c:(vK×Unit))(d:Int)(e:List Int)(f:Int)(g:Bool):Z150.j3 R N a b c d e f g=(bif g then((qce R n_Z147 o_Z147 [⟨yL,e⟩,⟨yI,f⟩]).bind fun r18=>((qce R n_Z148 o_Z148 [⟨(.ptr yC),c⟩,⟨yL,r18.1⟩]).bind fun r19=>(bif (decide (r19.1<(0:Int))) then some ⟨o_Z150,(false,())⟩ else(Z150.l2 R N a b c d e (w64 (f+(1:Int))))))) else(Z150.l0 R N a c (w64 (d+(1:Int))))):=(hw _ _).trans (by kernel_rfl)
theorem Z150.l2_succ(R:Run)(hw:R.ok)(N a n:Nat)(b:(vK×Unit))(c:Int)(d:List Int)(e:Int):Z150.l2 R N a (n+1) b c d e=(bif (decide (e<(List.length d:Int))) then(Z150.j3 R N a n b c d e (decide ((List.length d:Int)>(1:Int)))) else(Z150.j3 R N a n b c d e false)):=(hw _ _).trans (by kernel_rfl)
theorem Z150.j1_eq(R:Run)(hw:R.ok)(N a:Nat)(b:(vK×Unit))(c:Int)(d:List Int)(e:Bool):Z150.j1 R N a b c d e=(bif e then some ⟨o_Z150,(false,())⟩ else(Z150.l2 R N a N b c d (0:Int))):=(hw _ _).trans (by kernel_rfl)
theorem Z150.l0_succ(R:Run)(hw:R.ok)(N n:Nat)(a:(vK×Unit))(b:Int):Z150.l0 R N (n+1) a b=(bif (decide (b<(List.length a.1:Int))) then((idx? a.1 b).bind fun y3=>((qce R n_Z152 o_Z152 [⟨yL,(y3,()).1⟩]).bind fun r4=>(bif (!r4.1) then(Z150.j1 R N n a b ((y3,()).1) true) else(bif (decide (b>(0:Int))) then((idx? a.1 (w64 (b-(1:Int)))).bind fun y31=>((qce R n_Z142 o_Z142 [⟨yL,(y31,()).1⟩,⟨yL,(y3,()).1⟩]).bind fun r32=>(Z150.j1 R N n a b ((y3,()).1) (!r32.1)))) else(Z150.j1 R N n a b ((y3,()).1) false))))) else some ⟨o_Z150,(true,())⟩):=(hw _ _).trans (by kernel_rfl)
theorem Z150.ev(R:Run)(N:Nat)(a0:(vK×Unit)):qqm E R sg_Z150 pol_Z150 F_Z150 N [⟨(.ptr yC),a0⟩]=(bif (decide ((List.length a0.1:Int)>(48:Int))) then some ⟨o_Z150,(false,())⟩ else(Z150.l0 R N N a0 (0:Int))):=by kernel_rfl
theorem Z144.ev(R:Run)(N:Nat)(a0:Int):qqm E R sg_Z144 pol_Z144 F_Z144 N [⟨yI,a0⟩]=((qce R n_Z128 o_Z128 [⟨yI,a0⟩,⟨yI,(0:Int)⟩,⟨yI,(3:Int)⟩]).bind fun r1=>some ⟨o_Z144,(r1.1,())⟩):=by kernel_rfl
def Z149.l0(R:Run)(N n:Nat)(a:(vK×Unit))(b e:Int)(f:List Int):Option Dv:=R.w (some ⟨(.c (.ip yC a 0)::(.c (.d yI b)::(zd 3 (.c (.arr 7)::(.c (.d yI e)::(zd 26 [])))))),(zo 7 (some (.arr yI f true false false)::(zo 27 [])))⟩) fun st=>lC R pol_Z149 3 N [1,1,0,1,0,0] F_Z149 n st (kB R pol_Z149 0 (kS R pol_Z149 7 N [1,1,1] F_Z149 (qqQ E sg_Z149 F_Z149)))
theorem Z149.l0_succ(R:Run)(hw:R.ok)(N n:Nat)(a:(vK×Unit))(b c:Int)(d:List Int):Z149.l0 R N (n+1) a b c d=(bif (decide (c<(List.length a.1:Int))) then((idx? a.1 c).bind fun y5=>(bif ((List.length (y5,()).1:Int)==(w64 (b+(1:Int)))) then((chk (decide ((List.length d+List.length [c])*8≤70368744177664))).bind fun _=>(Z149.l0 R N n a b (w64 (c+(1:Int))) (d++[c]))) else(Z149.l0 R N n a b (w64 (c+(1:Int))) d))) else some ⟨o_Z149,(d,())⟩):=(hw _ _).trans (by kernel_rfl)
theorem Z149.ev(R:Run)(N:Nat)(a0:(vK×Unit))(a1:Int):qqm E R sg_Z149 pol_Z149 F_Z149 N [⟨(.ptr yC),a0⟩,⟨yI,a1⟩]=(Z149.l0 R N N a0 a1 (0:Int) ([]:List Int)):=by kernel_rfl
theorem Z126.ev(R:Run)(N:Nat)(a0:vK)(a1:Int):qqm E R sg_Z126 pol_Z126 F_Z126 N [⟨yK,a0⟩,⟨yI,a1⟩]=((qce R n_Z150 o_Z150 [⟨(.ptr yC),(a0,())⟩]).bind fun r1=>(bif (!r1.1) then some ⟨o_Z126,(([]:List Int),(1:Int),())⟩ else((qce R n_Z144 o_Z144 [⟨yI,a1⟩]).bind fun r2=>(bif (!r2.1) then some ⟨o_Z126,(([]:List Int),(2:Int),())⟩ else((qce R n_Z149 o_Z149 [⟨(.ptr yC),(a0,())⟩,⟨yI,a1⟩]).bind fun r3=>some ⟨o_Z126,(r3.1,(0:Int),())⟩))))):=by kernel_rfl
def Z91.j0(R:Run)(N:Nat)(a:List Int)(b e:Int)(f:Bool):Option Dv:=R.w (some ⟨(.c (.d (.sl (.int .u8)) a)::(.c (.d yI b)::(.c (.d yI e)::(zd 11 (.c (.d .bool f)::(zd 7 [])))))),(zo 25 [])⟩) fun st=>eC R pol_Z91 N [1,0,1] F_Z91 st (kS R pol_Z91 3 N [1,1] F_Z91 (qqQ E sg_Z91 F_Z91))
theorem Z91.j0_eq(R:Run)(hw:R.ok)(N:Nat)(a:List Int)(b c:Int)(d:Bool):Z91.j0 R N a b c d=(bif d then some ⟨o_Z91,((0:Int),())⟩ else((idx? a b).bind fun y5=>((chk (c != 0)).bind fun _=>some ⟨o_Z91,((Int.tmod (w64 ((y5,()).1)) c),())⟩))):=(hw _ _).trans (by kernel_rfl)
theorem Z91.ev(R:Run)(N:Nat)(a0:List Int)(a1 a2:Int):qqm E R sg_Z91 pol_Z91 F_Z91 N [⟨(.sl (.int .u8)),a0⟩,⟨yI,a1⟩,⟨yI,a2⟩]=(bif (decide (a2≤(1:Int))) then(Z91.j0 R N a0 a1 a2 true) else(Z91.j0 R N a0 a1 a2 (decide (a1≥(List.length a0:Int))))):=by kernel_rfl
def Z140.l0(R:Run)(N n:Nat)(a b:Int):Option Dv:=R.w (some ⟨(.c (.d yI a)::(V.dead::(V.dead::(.c (.d yI b)::(zd 14 []))))),(zo 19 [])⟩) fun st=>lC R pol_Z140 4 N [1,1,0,1,0,0] F_Z140 n st (kB R pol_Z140 0 (kS R pol_Z140 8 N [1,1,1] F_Z140 (qqQ E sg_Z140 F_Z140)))
theorem Z140.l0_succ(R:Run)(hw:R.ok)(N n:Nat)(a b:Int):Z140.l0 R N (n+1) a b=(bif (decide ((w64 (b*b))≤a)) then((chk (b != 0)).bind fun _=>(bif ((Int.tmod a b)==(0:Int)) then some ⟨o_Z140,(false,())⟩ else(Z140.l0 R N n a (w64 (b+(1:Int)))))) else some ⟨o_Z140,(true,())⟩):=(hw _ _).trans (by kernel_rfl)
theorem Z140.ev(R:Run)(N:Nat)(a0:Int):qqm E R sg_Z140 pol_Z140 F_Z140 N [⟨yI,a0⟩]=((qce R n_Z128 o_Z128 [⟨yI,a0⟩,⟨yI,(2:Int)⟩,⟨yI,(251:Int)⟩]).bind fun r1=>(bif (!r1.1) then some ⟨o_Z140,(false,())⟩ else(Z140.l0 R N N a0 (2:Int)))):=by kernel_rfl
theorem Z137.ev(R:Run)(N:Nat)(a0 a1:Int):qqm E R sg_Z137 pol_Z137 F_Z137 N [⟨yI,a0⟩,⟨yI,a1⟩]=((qce R n_Z140 o_Z140 [⟨yI,a1⟩]).bind fun r1=>(bif (!r1.1) then some ⟨o_Z137,((1:Int),())⟩ else((qce R n_Z128 o_Z128 [⟨yI,a0⟩,⟨yI,(0:Int)⟩,⟨yI,(w64 (a1-(1:Int)))⟩]).bind fun r2=>(bif (!r2.1) then some ⟨o_Z137,((2:Int),())⟩ else some ⟨o_Z137,((0:Int),())⟩)))):=by kernel_rfl
def Z139.l0(R:Run)(N n:Nat)(a b e f:Int):Option Dv:=R.w (some ⟨(.c (.d yI a)::(.c (.d yI b)::(.c (.d yI e)::(zd 4 (.c (.d yI f)::(zd 20 [])))))),(zo 31 [])⟩) fun st=>lC R pol_Z139 2 N [1,1,0,0,0] F_Z139 n st (kB R pol_Z139 0 (kS R pol_Z139 7 N [1,1,1] F_Z139 (qqQ E sg_Z139 F_Z139)))
theorem Z139.l0_succ(R:Run)(hw:R.ok)(N n:Nat)(a b c d:Int):Z139.l0 R N (n+1) a b c d=(bif (decide (b>(0:Int))) then(bif ((Int.tmod b (2:Int))==(1:Int)) then((chk (c != 0)).bind fun _=>((chk (c != 0)).bind fun _=>(Z139.l0 R N n (Int.tmod (w64 (a*a)) c) (w64 (Int.tdiv b (2:Int))) c (Int.tmod (w64 (d*a)) c)))) else((chk (c != 0)).bind fun _=>(Z139.l0 R N n (Int.tmod (w64 (a*a)) c) (w64 (Int.tdiv b (2:Int))) c d))) else some ⟨o_Z139,(d,())⟩):=(hw _ _).trans (by kernel_rfl)
theorem Z139.ev(R:Run)(N:Nat)(a0 a1 a2:Int):qqm E R sg_Z139 pol_Z139 F_Z139 N [⟨yI,a0⟩,⟨yI,a1⟩,⟨yI,a2⟩]=((chk (a2 != 0)).bind fun _=>(Z139.l0 R N N a0 a1 a2 (Int.tmod (1:Int) a2))):=by kernel_rfl
theorem Z138.ev(R:Run)(N:Nat)(a0 a1:Int):qqm E R sg_Z138 pol_Z138 F_Z138 N [⟨yI,a0⟩,⟨yI,a1⟩]=((qce R n_Z139 o_Z139 [⟨yI,a0⟩,⟨yI,(w64 (a1-(2:Int)))⟩,⟨yI,a1⟩]).bind fun r1=>some ⟨o_Z138,(r1.1,())⟩):=by kernel_rfl
def Z123.j1(R:Run)(N:Nat)(a b e:Int):Option Dv:=R.w (some ⟨(.c (.d yI a)::(.c (.d yI b)::(zd 4 (.c (.d yI e)::(zd 15 []))))),(zo 24 [])⟩) fun st=>eC R pol_Z123 N [1,1,1] F_Z123 st (qqQ E sg_Z123 F_Z123)
def Z123.j0(R:Run)(N:Nat)(a b e:Int)(f:Bool):Option Dv:=R.w (some ⟨(.c (.d yI a)::(.c (.d yI b)::(zd 4 (.c (.d yI e)::(zd 8 (.c (.d .bool f)::(zd 6 []))))))),(zo 24 [])⟩) fun st=>eC R pol_Z123 N [1,1,0,1] F_Z123 st (kS R pol_Z123 4 N [1,1,1] F_Z123 (qqQ E sg_Z123 F_Z123))
theorem Z123.j1_eq(R:Run)(hw:R.ok)(N:Nat)(a b c:Int):Z123.j1 R N a b c=(bif (c != (0:Int)) then some ⟨o_Z123,((0:Int),c,())⟩ else((qce R n_Z138 o_Z138 [⟨yI,a⟩,⟨yI,b⟩]).bind fun r9=>some ⟨o_Z123,(r9.1,(0:Int),())⟩)):=(hw _ _).trans (by kernel_rfl)
theorem Z123.j0_eq(R:Run)(hw:R.ok)(N:Nat)(a b c:Int)(d:Bool):Z123.j0 R N a b c d=(bif d then(Z123.j1 R N a b (6:Int)) else(Z123.j1 R N a b c)):=(hw _ _).trans (by kernel_rfl)
theorem Z123.ev(R:Run)(N:Nat)(a0 a1:Int):qqm E R sg_Z123 pol_Z123 F_Z123 N [⟨yI,a0⟩,⟨yI,a1⟩]=((qce R n_Z137 o_Z137 [⟨yI,a0⟩,⟨yI,a1⟩]).bind fun r1=>(bif (r1.1==(0:Int)) then(Z123.j0 R N a0 a1 r1.1 (a0==(0:Int))) else(Z123.j0 R N a0 a1 r1.1 false))):=by kernel_rfl
def Z60.l0(R:Run)(N n:Nat)(a:List Int)(b:Int):Option Dv:=R.w (some ⟨(.c (.d yL a)::(V.dead::(V.dead::(.c (.d yI b)::(zd 16 []))))),(zo 21 [])⟩) fun st=>lC R pol_Z60 2 N [1,0,1,0,0] F_Z60 n st (kB R pol_Z60 0 (kS R pol_Z60 6 N [1,1] F_Z60 (qqQ E sg_Z60 F_Z60)))
theorem Z60.l0_succ(R:Run)(hw:R.ok)(N n:Nat)(a:List Int)(b:Int):Z60.l0 R N (n+1) a b=(bif (decide (b<(List.length a:Int))) then((idx? a (w64 (b-(1:Int)))).bind fun y3=>((idx? a b).bind fun y4=>(bif (decide ((y3,()).1≥(y4,()).1)) then some ⟨o_Z60,(false,())⟩ else(Z60.l0 R N n a (w64 (b+(1:Int))))))) else some ⟨o_Z60,(true,())⟩):=(hw _ _).trans (by kernel_rfl)
theorem Z60.ev(R:Run)(N:Nat)(a0:List Int):qqm E R sg_Z60 pol_Z60 F_Z60 N [⟨yL,a0⟩]=(Z60.l0 R N N a0 (1:Int)):=by kernel_rfl
theorem Z86.ev(R:Run)(N:Nat)(a0 a1 a2:Int):qqm E R sg_Z86 pol_Z86 F_Z86 N [⟨yI,a0⟩,⟨yI,a1⟩,⟨yI,a2⟩]=(bif (decide (a0≥a1)) then some ⟨o_Z86,((decide (a0≤a2)),())⟩ else some ⟨o_Z86,(false,())⟩):=by kernel_rfl
theorem Z62.ev(R:Run)(N:Nat)(a0:Int):qqm E R sg_Z62 pol_Z62 F_Z62 N [⟨yI,a0⟩]=((qce R n_Z86 o_Z86 [⟨yI,a0⟩,⟨yI,(0:Int)⟩,⟨yI,(9:Int)⟩]).bind fun r1=>some ⟨o_Z62,(r1.1,())⟩):=by kernel_rfl
theorem Z23.ev(R:Run)(N:Nat)(a0:Int):qqm E R sg_Z23 pol_Z23 F_Z23 N [⟨yI,a0⟩]=((qce R n_Z62 o_Z62 [⟨yI,a0⟩]).bind fun r1=>some ⟨o_Z23,((!r1.1),())⟩):=by kernel_rfl
def Z116.l0(R:Run)(N n:Nat)(a:List Int)(b e:Int):Option Dv:=R.w (some ⟨(.c (.d yL a)::(.c (.d (.fn n_Z23 .nil) ())::(zd 5 (.c (.d yI b)::(.c (.d yI e)::(zd 10 [])))))),(zo 21 [])⟩) fun st=>q0_5 R N n st (q0_6 R (q0_3 R N (qqQ E sg_Z114 F_Z114)))
theorem Z116.l0_succ(R:Run)(hw:R.ok)(N n:Nat)(a:List Int)(b c:Int):Z116.l0 R N (n+1) a b c=(bif (decide (c<b)) then((idx? a c).bind fun y4=>((qce R n_Z23 o_Z23 [⟨yI,(y4,()).1⟩]).bind fun r5=>(bif r5.1 then some ⟨o_Z114,(c,())⟩ else(Z116.l0 R N n a b (w64 (c+(1:Int))))))) else some ⟨o_Z114,((-1:Int),())⟩):=(hw _ _).trans (by kernel_rfl)
theorem Z116.ev(R:Run)(N:Nat)(a0:List Int):qqm E R sg_Z114 pol_Z114 F_Z114 N [⟨yL,a0⟩,⟨(.fn n_Z23 .nil),()⟩]=(Z116.l0 R N N a0 (List.length a0:Int) (0:Int)):=by kernel_rfl
theorem Z104.ev(R:Run)(N:Nat)(a0:List Int):qqm E R sg_Z102 pol_Z102 F_Z102 N [⟨yL,a0⟩,⟨(.fn n_Z23 .nil),()⟩]=((qce R n_Z114 o_Z114 [⟨yL,a0⟩,⟨(.fn n_Z23 .nil),()⟩]).bind fun r1=>some ⟨o_Z102,((decide (r1.1≥(0:Int))),())⟩):=by kernel_rfl
theorem Z22.ev(R:Run)(N:Nat)(a0:List Int):qqm E R sg_Z22 pol_Z22 F_Z22 N [⟨yL,a0⟩]=(bif (decide ((List.length a0:Int)≥(1:Int))) then(bif (decide ((List.length a0:Int)≤(4:Int))) then((qce R n_Z60 o_Z60 [⟨yL,a0⟩]).bind fun r1=>(bif r1.1 then((qce R n_Z102 o_Z102 [⟨yL,a0⟩,⟨(.fn n_Z23 .nil),()⟩]).bind fun r2=>some ⟨o_Z22,((!r2.1),())⟩) else some ⟨o_Z22,(false,())⟩)) else some ⟨o_Z22,(false,())⟩) else some ⟨o_Z22,(false,())⟩):=by kernel_rfl
theorem Z3.ev(R:Run)(N:Nat)(a0:Int):qqm E R sg_Z3 pol_Z3 F_Z3 N [⟨yI,a0⟩]=some ⟨o_Z3,((a0 != a0),())⟩:=by kernel_rfl
theorem Z0.ev(R:Run)(N:Nat)(a0 a1:Int):qqm E R sg_Z0 pol_Z0 F_Z0 N [⟨yI,a0⟩,⟨yI,a1⟩]=((qce R n_Z3 o_Z3 [⟨yI,a0⟩]).bind fun r1=>((qce R n_Z3 o_Z3 [⟨yI,a1⟩]).bind fun r2=>(bif r1.1 then(bif r2.1 then some ⟨o_Z0,((0:Int),())⟩ else some ⟨o_Z0,((-1:Int),())⟩) else(bif r2.1 then some ⟨o_Z0,((1:Int),())⟩ else(bif (decide (a0<a1)) then some ⟨o_Z0,((-1:Int),())⟩ else(bif (decide (a0>a1)) then some ⟨o_Z0,((1:Int),())⟩ else some ⟨o_Z0,((0:Int),())⟩)))))):=by kernel_rfl
theorem Z4.ev(R:Run)(N:Nat)(a0:Int):qqm E R sg_Z4 pol_Z4 F_Z4 N [⟨yI,a0⟩]=some ⟨o_Z4,((a0 != a0),())⟩:=by kernel_rfl
theorem Z1.ev(R:Run)(N:Nat)(a0 a1:Int):qqm E R sg_Z1 pol_Z1 F_Z1 N [⟨yI,a0⟩,⟨yI,a1⟩]=((qce R n_Z4 o_Z4 [⟨yI,a0⟩]).bind fun r1=>((qce R n_Z4 o_Z4 [⟨yI,a1⟩]).bind fun r2=>(bif r1.1 then(bif r2.1 then some ⟨o_Z1,((0:Int),())⟩ else some ⟨o_Z1,((-1:Int),())⟩) else(bif r2.1 then some ⟨o_Z1,((1:Int),())⟩ else(bif (decide (a0<a1)) then some ⟨o_Z1,((-1:Int),())⟩ else(bif (decide (a0>a1)) then some ⟨o_Z1,((1:Int),())⟩ else some ⟨o_Z1,((0:Int),())⟩)))))):=by kernel_rfl
def Z98.l0(R:Run)(N n:Nat)(a b e:List Int)(f g:Int):Option Dv:=R.w (some ⟨(.c (.d yL a)::(.c (.d yL b)::(zd 7 (.c (.d yL e)::(.c (.d yI f)::(.c (.d yI g)::(zd 24 []))))))),(zo 38 [])⟩) fun st=>lC R pol_Z98 2 N [1,0,1,0,0] F_Z98 n st (kB R pol_Z98 0 (kS R pol_Z98 11 N [1,1] F_Z98 (qqQ E sg_Z98 F_Z98)))
theorem Z98.l0_succ(R:Run)(hw:R.ok)(N n:Nat)(a b c:List Int)(d e:Int):Z98.l0 R N (n+1) a b c d e=(bif (decide (e<d)) then((idx? c e).bind fun y6=>(bif (decide (e≥(List.length b:Int))) then some ⟨o_Z98,((1:Int),())⟩ else((idx? b e).bind fun y7=>((qce R n_Z1 o_Z1 [⟨yI,(y6,()).1⟩,⟨yI,(y7,()).1⟩]).bind fun r8=>(bif (r8.1 != (0:Int)) then some ⟨o_Z98,(r8.1,())⟩ else(Z98.l0 R N n a b c d (w64 (e+(1:Int))))))))) else(bif (decide ((List.length a:Int)<(List.length b:Int))) then some ⟨o_Z98,((-1:Int),())⟩ else some ⟨o_Z98,((0:Int),())⟩)):=(hw _ _).trans (by kernel_rfl)
theorem Z98.ev(R:Run)(N:Nat)(a0 a1:List Int):qqm E R sg_Z98 pol_Z98 F_Z98 N [⟨yL,a0⟩,⟨yL,a1⟩]=(Z98.l0 R N N a0 a1 a0 (List.length a0:Int) (0:Int)):=by kernel_rfl
def Z2.l0(R:Run)(N n:Nat)(a:Int)(b:List Int)(e f:Int):Option Dv:=R.w (some ⟨(zd 3 (.c (.d yI a)::(V.dead::(V.dead::(.c (.d yL b)::(.c (.d yI e)::(.c (.d yI f)::(zd 9 [])))))))),(zo 19 [])⟩) fun st=>lC R pol_Z2 3 N [1,1,0,1,0,0] F_Z2 n st (kB R pol_Z2 0 (kS R pol_Z2 8 N [1,1,1] F_Z2 (qqQ E sg_Z2 F_Z2)))
theorem Z2.l0_succ(R:Run)(hw:R.ok)(N n:Nat)(a:Int)(b:List Int)(c d:Int):Z2.l0 R N (n+1) a b c d=(bif (decide (d<c)) then((idx? b d).bind fun y5=>(bif ((y5,()).1 != a) then some ⟨o_Z2,((y5,()).1,())⟩ else(Z2.l0 R N n a b c (w64 (d+(1:Int)))))) else some ⟨o_Z2,(a,())⟩):=(hw _ _).trans (by kernel_rfl)
theorem Z2.ev(R:Run)(N:Nat)(a0:List Int):qqm E R sg_Z2 pol_Z2 F_Z2 N [⟨yL,a0⟩]=(Z2.l0 R N N (0:Int) a0 (List.length a0:Int) (0:Int)):=by kernel_rfl
theorem Z35.ev(R:Run)(N:Nat)(a0 a1:List Int):qqm E R sg_Z35 pol_Z35 F_Z35 N [⟨yL,a0⟩,⟨yL,a1⟩]=((qce R n_Z0 o_Z0 [⟨yI,(List.length a0:Int)⟩,⟨yI,(List.length a1:Int)⟩]).bind fun r1=>((qce R n_Z98 o_Z98 [⟨yL,a0⟩,⟨yL,a1⟩]).bind fun r2=>((qce R n_Z2 o_Z2 [⟨yL,[r1.1,r2.1]⟩]).bind fun r3=>some ⟨o_Z35,(r3.1,())⟩))):=by kernel_rfl
def Z99.l1(R:Run)(N n:Nat)(a:vK)(b e:Int)(f:List Int):Option Dv:=R.w (some ⟨(zd 6 (.c (.arr 37)::(zd 18 (.c (.d yK a)::(.c (.d yI b)::(.c (.d yI e)::(zd 8 []))))))),(zo 37 (some (.arr yI f true false false)::[]))⟩) fun st=>lC R pol_Z99 11 N [1,1,1,1,0,1,0,0] F_Z99 n st (kB R pol_Z99 2 (kS R pol_Z99 15 N [1,1,1,1,1] F_Z99 (qqQ E sg_Z99 F_Z99)))
def Z99.l0(R:Run)(N n:Nat)(a:vK)(b:Int)(e:vK)(f g:Int):Option Dv:=R.w (some ⟨(.c (.d yK a)::(V.dead::(V.dead::(.c (.d yI b)::(zd 5 (.c (.d yK e)::(.c (.d yI f)::(.c (.d yI g)::(zd 24 []))))))))),(zo 38 [])⟩) fun st=>lC R pol_Z99 3 N [1,1,0,1,0,0] F_Z99 n st (kB R pol_Z99 0 (kS R pol_Z99 9 N [1,1,1] F_Z99 (qqQ E sg_Z99 F_Z99)))
theorem Z99.l1_succ(R:Run)(hw:R.ok)(N n:Nat)(a:vK)(b c:Int)(d:List Int):Z99.l1 R N (n+1) a b c d=(bif (decide (c<b)) then((idx? a c).bind fun y17=>((chk (decide ((List.length d+List.length (y17,()).1)*8≤70368744177664))).bind fun _=>(Z99.l1 R N n a b (w64 (c+(1:Int))) (d++(y17,()).1)))) else some ⟨o_Z99,(d,())⟩):=(hw _ _).trans (by kernel_rfl)
theorem Z99.l0_succ(R:Run)(hw:R.ok)(N n:Nat)(a:vK)(b:Int)(c:vK)(d e:Int):Z99.l0 R N (n+1) a b c d e=(bif (decide (e<d)) then((idx? c e).bind fun y6=>(bif (decide ((w64 (b+(List.length (y6,()).1:Int)))<(0:Int))) then none else(Z99.l0 R N n a (w64 (b+(List.length (y6,()).1:Int))) c d (w64 (e+(1:Int)))))) else((qce R n_Z110 o_Z110 [⟨yL,([]:List Int)⟩,⟨yI,b⟩]).bind fun r12=>(Z99.l1 R N N a (List.length a:Int) (0:Int) r12.1))):=(hw _ _).trans (by kernel_rfl)
theorem Z99.ev(R:Run)(N:Nat)(a0:vK):qqm E R sg_Z99 pol_Z99 F_Z99 N [⟨yK,a0⟩]=(Z99.l0 R N N a0 (0:Int) a0 (List.length a0:Int) (0:Int)):=by kernel_rfl
def Z46.l0(R:Run)(N n:Nat)(a:List Int)(b e:Int)(f:vK):Option Dv:=R.w (some ⟨(.c (.d yL a)::(V.dead::(V.dead::(.c (.arr 24)::(V.dead::(V.dead::(.c (.d yI b)::(.c (.d yI e)::(zd 19 []))))))))),(zo 24 (some (.arr yL f true false false)::(zo 4 [])))⟩) fun st=>lC R pol_Z46 3 N [1,1,0,1,0,0] F_Z46 n st (kB R pol_Z46 0 (kS R pol_Z46 8 N [1,1,1] F_Z46 (qqQ E sg_Z46 F_Z46)))
theorem Z46.l0_succ(R:Run)(hw:R.ok)(N n:Nat)(a:List Int)(b c:Int)(d:vK):Z46.l0 R N (n+1) a b c d=(bif (decide (c<b)) then(bif (decide ((List.length a:Int)>(1:Int))) then((chk (decide (0≤c)&&decide (c≤(List.length a:Int)))).bind fun _=>((chk (decide (0≤(w64 (c+(1:Int))))&&decide ((w64 (c+(1:Int)))≤(List.length a:Int)))).bind fun _=>((qce R n_Z99 o_Z99 [⟨yK,[(List.take (Int.toNat c) a),(List.drop (Int.toNat (w64 (c+(1:Int)))) a)]⟩]).bind fun r5=>((chk (decide ((List.length d+List.length [r5.1])*24≤70368744177664))).bind fun _=>(Z46.l0 R N n a b (w64 (c+(1:Int))) (d++[r5.1])))))) else(Z46.l0 R N n a b (w64 (c+(1:Int))) d)) else some ⟨o_Z46,(d,())⟩):=(hw _ _).trans (by kernel_rfl)
theorem Z46.ev(R:Run)(N:Nat)(a0:List Int):qqm E R sg_Z46 pol_Z46 F_Z46 N [⟨yL,a0⟩]=(Z46.l0 R N N a0 (List.length a0:Int) (0:Int) ([]:List (List Int))):=by kernel_rfl
def Z95.l0(R:Run)(N n:Nat)(a:vK)(b:List Int)(e f g:Int):Option Dv:=R.w (some ⟨(.c (.d yK a)::(.c (.d yL b)::(.c (.d (.fn n_Z35 .nil) ())::(zd 5 (.c (.d yI e)::(.c (.d yI f)::(.c (.d yI g)::(zd 38 [])))))))),(zo 52 [])⟩) fun st=>lC R pol_Z94 3 N [1,1,1,0,0,0] F_Z94 n st (kB R pol_Z94 0 (kS R pol_Z94 8 N [1,1,1,1] F_Z94 (qqQ E sg_Z94 F_Z94)))
theorem Z95.l0_succ(R:Run)(hw:R.ok)(N n:Nat)(a:vK)(b:List Int)(c d e:Int):Z95.l0 R N (n+1) a b c d e=(bif (decide (d<e)) then((chk (decide (0≤(1:Int)))).bind fun _=>((idx? a (w64 ((Int.fdiv (IntKind.wrap .u64 ((w64 (d+e)))) (2 ^ (min (Int.toNat (1:Int)) (IntKind.bits .u64))))))).bind fun y6=>((qce R n_Z35 o_Z35 [⟨yL,(y6,()).1⟩,⟨yL,b⟩]).bind fun r7=>(bif (decide (r7.1<(0:Int))) then(Z95.l0 R N n a b c (w64 ((w64 ((Int.fdiv (IntKind.wrap .u64 ((w64 (d+e)))) (2 ^ (min (Int.toNat (1:Int)) (IntKind.bits .u64))))))+(1:Int))) e) else(Z95.l0 R N n a b c d (w64 ((Int.fdiv (IntKind.wrap .u64 ((w64 (d+e)))) (2 ^ (min (Int.toNat (1:Int)) (IntKind.bits .u64))))))))))) else(bif (decide (d<c)) then((idx? a d).bind fun y18=>((qce R n_Z35 o_Z35 [⟨yL,(y18,()).1⟩,⟨yL,b⟩]).bind fun r19=>some ⟨o_Z94,(d,(r19.1==(0:Int)),())⟩)) else some ⟨o_Z94,(d,false,())⟩)):=(hw _ _).trans (by kernel_rfl)
theorem Z95.ev(R:Run)(N:Nat)(a0:vK)(a1:List Int):qqm E R sg_Z94 pol_Z94 F_Z94 N [⟨yK,a0⟩,⟨yL,a1⟩,⟨(.fn n_Z35 .nil),()⟩]=(Z95.l0 R N N a0 a1 (List.length a0:Int) (0:Int) (List.length a0:Int)):=by kernel_rfl
theorem Z56.ev(R:Run)(N:Nat)(a0:vK)(a1:List Int):qqm E R sg_Z56 pol_Z56 F_Z56 N [⟨yK,a0⟩,⟨yL,a1⟩]=((qce R n_Z94 o_Z94 [⟨yK,a0⟩,⟨yL,a1⟩,⟨(.fn n_Z35 .nil),()⟩]).bind fun r1=>(bif (!r1.2.1) then some ⟨o_Z56,((-1:Int),())⟩ else some ⟨o_Z56,(r1.1,())⟩)):=by kernel_rfl
theorem Z18.ev(R:Run)(N:Nat)(a0:List Int)(a1:(vK×Unit))(a2:(Int×Unit)):qqm E R sg_Z18 pol_Z18 F_Z18 N [⟨yL,a0⟩,⟨(.ptr yC),a1⟩,⟨(.ptr (.cons yI .nil)),a2⟩]=((chk (decide (0≤a2.1)&&decide (a2.1≤(List.length a1.1:Int)))).bind fun _=>((qce R n_Z56 o_Z56 [⟨yK,(List.take (Int.toNat a2.1) a1.1)⟩,⟨yL,a0⟩]).bind fun r1=>some ⟨o_Z18,((decide (r1.1<(0:Int))),())⟩)):=by kernel_rfl
def Z112.l0(R:Run)(N n:Nat)(a:vK)(b:((vK×Unit)×(Int×Unit)×Unit))(e f:Int):Option Dv:=R.w (some ⟨(.c (.d yK a)::(.c (.d (.fn n_Z18 (.cons (.ptr yC) (.cons (.ptr (.cons yI .nil)) .nil))) b)::(zd 5 (.c (.d yI e)::(.c (.d yI f)::(zd 10 [])))))),(zo 21 [])⟩) fun st=>lC R pol_Z111 2 N [1,0,1,0,0] F_Z111 n st (kB R pol_Z111 0 (kS R pol_Z111 7 N [1,1] F_Z111 (qqQ E sg_Z111 F_Z111)))
theorem Z112.l0_succ(R:Run)(hw:R.ok)(N n:Nat)(a:vK)(b:((vK×Unit)×(Int×Unit)×Unit))(c d:Int):Z112.l0 R N (n+1) a b c d=(bif (decide (d<c)) then((idx? a d).bind fun y5=>((qce R n_Z18 o_Z18 [⟨yL,(y5,()).1⟩,⟨(.ptr yC),b.1⟩,⟨(.ptr (.cons yI .nil)),b.2.1⟩]).bind fun r6=>(bif r6.1 then some ⟨o_Z111,(d,())⟩ else(Z112.l0 R N n a b c (w64 (d+(1:Int))))))) else some ⟨o_Z111,((-1:Int),())⟩):=(hw _ _).trans (by kernel_rfl)
theorem Z112.ev(R:Run)(N:Nat)(a0:vK)(a1:((vK×Unit)×(Int×Unit)×Unit)):qqm E R sg_Z111 pol_Z111 F_Z111 N [⟨yK,a0⟩,⟨(.fn n_Z18 (.cons (.ptr yC) (.cons (.ptr (.cons yI .nil)) .nil))),a1⟩]=(Z112.l0 R N N a0 a1 (List.length a0:Int) (0:Int)):=by kernel_rfl
theorem Z101.ev(R:Run)(N:Nat)(a0:vK)(a1:((vK×Unit)×(Int×Unit)×Unit)):qqm E R sg_Z100 pol_Z100 F_Z100 N [⟨yK,a0⟩,⟨(.fn n_Z18 (.cons (.ptr yC) (.cons (.ptr (.cons yI .nil)) .nil))),a1⟩]=((qce R n_Z111 o_Z111 [⟨yK,a0⟩,⟨(.fn n_Z18 (.cons (.ptr yC) (.cons (.ptr (.cons yI .nil)) .nil))),a1⟩]).bind fun r1=>some ⟨o_Z100,((decide (r1.1≥(0:Int))),())⟩):=by kernel_rfl
def Z17.j1(R:Run)(N a:Nat)(b:List Int)(e:vK)(f g:Int)(h:Bool)(i:vK)(j:Int):Option Dv:=R.w (some ⟨(V.dead::(.c (.box 1 0)::(V.dead::(.c (.box 3 0)::(.c (.d yL b)::(V.dead::(.c (.d yK e)::(.c (.d yI f)::(.c (.d yI g)::(zd 21 (.c (.d .bool h)::(zd 9 [])))))))))))),(none::(some (.box [.d yK i] true false)::(none::(some (.box [.d yI j] false false)::(zo 37 [])))))⟩) fun st=>eC R pol_Z17 N [1,0,1,0,0,1,1,0,0,1,0,1] F_Z17 st (kS R pol_Z17 6 N [1,0,1,0,0,1,1,0,0,1,1] F_Z17 (kB R pol_Z17 1 (kS R pol_Z17 8 N [1,0,1,0,0,1,1,1] F_Z17 (kL R pol_Z17 2 N [1,0,1,0,0] F_Z17 a (kB R pol_Z17 0 (kS R pol_Z17 9 N [1,1] F_Z17 (qqQ E sg_Z17 F_Z17)))))))
def Z17.l0(R:Run)(N n:Nat)(a:vK)(b e:Int)(f:vK):Option Dv:=R.w (some ⟨(V.dead::(.c (.box 1 0)::(zd 4 (.c (.d yK a)::(.c (.d yI b)::(.c (.d yI e)::(zd 31 []))))))),(none::(some (.box [.d yK f] true false)::(zo 39 [])))⟩) fun st=>lC R pol_Z17 2 N [1,0,1,0,0] F_Z17 n st (kB R pol_Z17 0 (kS R pol_Z17 9 N [1,1] F_Z17 (qqQ E sg_Z17 F_Z17)))
theorem Z17.j1_eq(R:Run)(hw:R.ok)(N a:Nat)(b:List Int)(c:vK)(d e:Int)(f:Bool)(g:vK)(h:Int):Z17.j1 R N a b c d e f g h=(bif f then some ⟨o_Z17,(false,())⟩ else((qce R n_Z46 o_Z46 [⟨yL,b⟩]).bind fun r14=>((qce R n_Z100 o_Z100 [⟨yK,r14.1⟩,⟨(.fn n_Z18 (.cons (.ptr yC) (.cons (.ptr (.cons yI .nil)) .nil))),((g,()),(h,()),())⟩]).bind fun r15=>(bif r15.1 then some ⟨o_Z17,(false,())⟩ else(Z17.l0 R N a c d (w64 (e+(1:Int))) g))))):=(hw _ _).trans (by kernel_rfl)
theorem Z17.l0_succ(R:Run)(hw:R.ok)(N n:Nat)(a:vK)(b c:Int)(d:vK):Z17.l0 R N (n+1) a b c d=(bif (decide (c<b)) then((idx? a c).bind fun y5=>((qce R n_Z22 o_Z22 [⟨yL,(y5,()).1⟩]).bind fun r6=>(bif (!r6.1) then(Z17.j1 R N n ((y5,()).1) a b c true d c) else(bif (decide (c>(0:Int))) then((idx? d (w64 (c-(1:Int)))).bind fun y20=>((qce R n_Z35 o_Z35 [⟨yL,(y20,()).1⟩,⟨yL,(y5,()).1⟩]).bind fun r21=>(Z17.j1 R N n ((y5,()).1) a b c (decide (r21.1≥(0:Int))) d c))) else(Z17.j1 R N n ((y5,()).1) a b c false d c))))) else some ⟨o_Z17,((decide ((List.length d:Int)≤(48:Int))),())⟩):=(hw _ _).trans (by kernel_rfl)
theorem Z17.ev(R:Run)(N:Nat)(a0:vK):qqm E R sg_Z17 pol_Z17 F_Z17 N [⟨yK,a0⟩]=(Z17.l0 R N N a0 (List.length a0:Int) (0:Int) a0):=by kernel_rfl
def Z20.l0(R:Run)(N n:Nat)(a b:Int):Option Dv:=R.w (some ⟨(.c (.d yI a)::(V.dead::(V.dead::(.c (.d yI b)::(zd 14 []))))),(zo 19 [])⟩) fun st=>lC R pol_Z20 4 N [1,1,0,1,0,0] F_Z20 n st (kB R pol_Z20 0 (kS R pol_Z20 8 N [1,1,1] F_Z20 (qqQ E sg_Z20 F_Z20)))
theorem Z20.l0_succ(R:Run)(hw:R.ok)(N n:Nat)(a b:Int):Z20.l0 R N (n+1) a b=(bif (decide ((w64 (b*b))≤a)) then((chk (b != 0)).bind fun _=>(bif ((Int.tmod a b)==(0:Int)) then some ⟨o_Z20,(false,())⟩ else(Z20.l0 R N n a (w64 (b+(1:Int)))))) else some ⟨o_Z20,(true,())⟩):=(hw _ _).trans (by kernel_rfl)
theorem Z20.ev(R:Run)(N:Nat)(a0:Int):qqm E R sg_Z20 pol_Z20 F_Z20 N [⟨yI,a0⟩]=((qce R n_Z86 o_Z86 [⟨yI,a0⟩,⟨yI,(2:Int)⟩,⟨yI,(251:Int)⟩]).bind fun r1=>(bif (!r1.1) then some ⟨o_Z20,(false,())⟩ else(Z20.l0 R N N a0 (2:Int)))):=by kernel_rfl
theorem Z79.ev(R:Run)(N:Nat)(a0:List Int):qqm E R sg_Z79 pol_Z79 F_Z79 N [⟨yL,a0⟩]=some ⟨o_Z79,((List.length a0:Int),())⟩:=by kernel_rfl
def Z77.l0(R:Run)(N n:Nat)(a:Int)(b:vK)(e f:Int)(g:List Int):Option Dv:=R.w (some ⟨(V.dead::(.c (.d yI a)::(zd 3 (.c (.arr 24)::(zd 3 (.c (.d yK b)::(.c (.d yI e)::(.c (.d yI f)::(zd 15 []))))))))),(zo 24 (some (.arr yI g true false false)::(zo 4 [])))⟩) fun st=>lC R pol_Z77 3 N [1,1,0,1,0,0] F_Z77 n st (kB R pol_Z77 0 (kS R pol_Z77 8 N [1,1,1] F_Z77 (qqQ E sg_Z77 F_Z77)))
theorem Z77.l0_succ(R:Run)(hw:R.ok)(N n:Nat)(a:Int)(b:vK)(c d:Int)(e:List Int):Z77.l0 R N (n+1) a b c d e=(bif (decide (d<c)) then((idx? b d).bind fun y6=>((qce R n_Z79 o_Z79 [⟨yL,(y6,()).1⟩]).bind fun r7=>(bif (r7.1==(w64 (a+(1:Int)))) then((chk (decide ((List.length e+List.length [d])*8≤70368744177664))).bind fun _=>(Z77.l0 R N n a b c (w64 (d+(1:Int))) (e++[d]))) else(Z77.l0 R N n a b c (w64 (d+(1:Int))) e)))) else some ⟨o_Z77,(e,())⟩):=(hw _ _).trans (by kernel_rfl)
theorem Z77.ev(R:Run)(N:Nat)(a0:vK)(a1:Int):qqm E R sg_Z77 pol_Z77 F_Z77 N [⟨yK,a0⟩,⟨yI,a1⟩]=(Z77.l0 R N N a1 a0 (List.length a0:Int) (0:Int) ([]:List Int)):=by kernel_rfl
theorem Z15.ev(R:Run)(N:Nat)(a0:Int)(a1:(Int×Unit)):qqm E R sg_Z15 pol_Z15 F_Z15 N [⟨yI,a0⟩,⟨(.ptr (.cons yI .nil)),a1⟩]=((qce R n_Z86 o_Z86 [⟨yI,a0⟩,⟨yI,(1:Int)⟩,⟨yI,(w64 (a1.1-(1:Int)))⟩]).bind fun r1=>some ⟨o_Z15,((!r1.1),())⟩):=by kernel_rfl
def Z115.l0(R:Run)(N n:Nat)(a:List Int)(b:((Int×Unit)×Unit))(e f:Int):Option Dv:=R.w (some ⟨(.c (.d yL a)::(.c (.d (.fn n_Z15 (.cons (.ptr (.cons yI .nil)) .nil)) b)::(zd 5 (.c (.d yI e)::(.c (.d yI f)::(zd 10 [])))))),(zo 21 [])⟩) fun st=>q0_5 R N n st (q0_6 R (q0_3 R N (qqQ E sg_Z114 F_Z114)))
theorem Z115.l0_succ(R:Run)(hw:R.ok)(N n:Nat)(a:List Int)(b:((Int×Unit)×Unit))(c d:Int):Z115.l0 R N (n+1) a b c d=(bif (decide (d<c)) then((idx? a d).bind fun y5=>((qce R n_Z15 o_Z15 [⟨yI,(y5,()).1⟩,⟨(.ptr (.cons yI .nil)),b.1⟩]).bind fun r6=>(bif r6.1 then some ⟨o_Z114,(d,())⟩ else(Z115.l0 R N n a b c (w64 (d+(1:Int))))))) else some ⟨o_Z114,((-1:Int),())⟩):=(hw _ _).trans (by kernel_rfl)
theorem Z115.ev(R:Run)(N:Nat)(a0:List Int)(a1:((Int×Unit)×Unit)):qqm E R sg_Z114 pol_Z114 F_Z114 N [⟨yL,a0⟩,⟨(.fn n_Z15 (.cons (.ptr (.cons yI .nil)) .nil)),a1⟩]=(Z115.l0 R N N a0 a1 (List.length a0:Int) (0:Int)):=by kernel_rfl
theorem Z103.ev(R:Run)(N:Nat)(a0:List Int)(a1:((Int×Unit)×Unit)):qqm E R sg_Z102 pol_Z102 F_Z102 N [⟨yL,a0⟩,⟨(.fn n_Z15 (.cons (.ptr (.cons yI .nil)) .nil)),a1⟩]=((qce R n_Z114 o_Z114 [⟨yL,a0⟩,⟨(.fn n_Z15 (.cons (.ptr (.cons yI .nil)) .nil)),a1⟩]).bind fun r1=>some ⟨o_Z102,((decide (r1.1≥(0:Int))),())⟩):=by kernel_rfl
def Z44.l0(R:Run)(N n:Nat)(a b e:Int)(f:List Int):Option Dv:=R.w (some ⟨(V.dead::(.c (.d yI a)::(zd 3 (.c (.arr 14)::(V.dead::(V.dead::(.c (.d yI b)::(.c (.d yI e)::(zd 7 []))))))))),(zo 14 (some (.arr yI f true false false)::(zo 4 [])))⟩) fun st=>lC R pol_Z44 3 N [1,1,0,1,0,0] F_Z44 n st (kB R pol_Z44 0 (kS R pol_Z44 6 N [1,1,1] F_Z44 (qqQ E sg_Z44 F_Z44)))
theorem Z44.l0_succ(R:Run)(hw:R.ok)(N n:Nat)(a b c:Int)(d:List Int):Z44.l0 R N (n+1) a b c d=(bif (decide (c<b)) then((chk (decide ((List.length d+List.length [a])*8≤70368744177664))).bind fun _=>(Z44.l0 R N n a b (w64 (c+(1:Int))) (d++[a]))) else some ⟨o_Z44,(d,())⟩):=(hw _ _).trans (by kernel_rfl)
theorem Z44.ev(R:Run)(N:Nat)(a0:vK)(a1:Int):qqm E R sg_Z44 pol_Z44 F_Z44 N [⟨yK,a0⟩,⟨yI,a1⟩]=(Z44.l0 R N N a1 (List.length a0:Int) (0:Int) ([]:List Int)):=by kernel_rfl
theorem Z29.ev(R:Run)(N:Nat)(a0:Int):qqm E R sg_Z29 pol_Z29 F_Z29 N [⟨yI,a0⟩]=((qce R n_Z86 o_Z86 [⟨yI,a0⟩,⟨yI,(0:Int)⟩,⟨yI,(3:Int)⟩]).bind fun r1=>some ⟨o_Z29,((!r1.1),())⟩):=by kernel_rfl
def Z118.l0(R:Run)(N n:Nat)(a:List Int)(b e:Int):Option Dv:=R.w (some ⟨(.c (.d yL a)::(.c (.d (.fn n_Z29 .nil) ())::(zd 5 (.c (.d yI b)::(.c (.d yI e)::(zd 10 [])))))),(zo 21 [])⟩) fun st=>q0_5 R N n st (q0_6 R (q0_3 R N (qqQ E sg_Z114 F_Z114)))
theorem Z118.l0_succ(R:Run)(hw:R.ok)(N n:Nat)(a:List Int)(b c:Int):Z118.l0 R N (n+1) a b c=(bif (decide (c<b)) then((idx? a c).bind fun y4=>((qce R n_Z29 o_Z29 [⟨yI,(y4,()).1⟩]).bind fun r5=>(bif r5.1 then some ⟨o_Z114,(c,())⟩ else(Z118.l0 R N n a b (w64 (c+(1:Int))))))) else some ⟨o_Z114,((-1:Int),())⟩):=(hw _ _).trans (by kernel_rfl)
theorem Z118.ev(R:Run)(N:Nat)(a0:List Int):qqm E R sg_Z114 pol_Z114 F_Z114 N [⟨yL,a0⟩,⟨(.fn n_Z29 .nil),()⟩]=(Z118.l0 R N N a0 (List.length a0:Int) (0:Int)):=by kernel_rfl
theorem Z106.ev(R:Run)(N:Nat)(a0:List Int):qqm E R sg_Z102 pol_Z102 F_Z102 N [⟨yL,a0⟩,⟨(.fn n_Z29 .nil),()⟩]=((qce R n_Z114 o_Z114 [⟨yL,a0⟩,⟨(.fn n_Z29 .nil),()⟩]).bind fun r1=>some ⟨o_Z102,((decide (r1.1≥(0:Int))),())⟩):=by kernel_rfl
def Z81.l0(R:Run)(N n:Nat)(a:Int)(b:List Int)(e f:Int)(g:vK)(h:Int)(i:List Int)(j:vN):Option Dv:=R.w (some ⟨(V.dead::(V.dead::(.c (.box 2 0)::(V.dead::(V.dead::(.c (.d yI a)::(zd 5 (.c (.d yL b)::(.c (.d yI e)::(.c (.d yI f)::(zd 12 []))))))))))),(none::(none::(some (.box [.d yK g,.d yI h,.d yL i,.d yN j] false false)::(zo 28 []))))⟩) fun st=>lC R pol_Z81 3 N [1,1,0,1,0,0] F_Z81 n st (kB R pol_Z81 0 (kS R pol_Z81 7 N [1,1,1] F_Z81 (qqQ E sg_Z81 F_Z81)))
theorem Z81.l0_succ(R:Run)(hw:R.ok)(N n:Nat)(a:Int)(b:List Int)(c d:Int)(e:vK)(f:Int)(g:List Int)(h:vN):Z81.l0 R N (n+1) a b c d e f g h=(bif (decide (d<c)) then((idx? b d).bind fun y10=>((idx? g (y10,()).1).bind fun y11=>(Z81.l0 R N n (w64 (a+(y11,()).1)) b c (w64 (d+(1:Int))) e f g h))) else some ⟨o_Z81,(a,())⟩):=(hw _ _).trans (by kernel_rfl)
theorem Z81.ev(R:Run)(N:Nat)(a0:vK)(a1:Int)(a2:List Int)(a3:vN)(a4:Int):qqm E R sg_Z81 pol_Z81 F_Z81 N [⟨yK,a0⟩,⟨yI,a1⟩,⟨yL,a2⟩,⟨yN,a3⟩,⟨yI,a4⟩]=((qce R n_Z77 o_Z77 [⟨yK,a0⟩,⟨yI,a4⟩]).bind fun r1=>(Z81.l0 R N N (0:Int) r1.1 (List.length r1.1:Int) (0:Int) a0 a1 a2 a3)):=by kernel_rfl
def Z28.l1(R:Run)(N n:Nat)(a:List Int)(b:Int)(e:vK):Option Dv:=R.w (some ⟨(V.dead::(.c (.d yL a)::(.c (.box 2 0)::(zd 13 (.c (.d yI b)::(zd 9 [])))))),(none::(none::(some (.box [.d yK e] false false)::(zo 25 []))))⟩) fun st=>lC R pol_Z28 4 N [1,1,0,1,0,0] F_Z28 n st (kB R pol_Z28 0 (kS R pol_Z28 9 N [1,1,1] F_Z28 (qqQ E sg_Z28 F_Z28)))
def Z28.j0(R:Run)(N:Nat)(a:List Int)(b:Bool)(e:vK):Option Dv:=R.w (some ⟨(V.dead::(.c (.d yL a)::(.c (.box 2 0)::(zd 12 (.c (.d .bool b)::(zd 10 [])))))),(none::(none::(some (.box [.d yK e] false false)::(zo 25 []))))⟩) fun st=>eC R pol_Z28 N [1,0,1] F_Z28 st (kS R pol_Z28 3 N [1,1] F_Z28 (qqQ E sg_Z28 F_Z28))
theorem Z28.l1_succ(R:Run)(hw:R.ok)(N n:Nat)(a:List Int)(b:Int)(c:vK):Z28.l1 R N (n+1) a b c=(bif (decide (b<(4:Int))) then((qce R n_Z81 o_Z81 [⟨yK,c⟩,⟨yI,(0:Int)⟩,⟨yL,a⟩,⟨yN,([]:List vM)⟩,⟨yI,b⟩]).bind fun r7=>(bif (decide (r7.1>(32:Int))) then some ⟨o_Z28,(false,())⟩ else(Z28.l1 R N n a (w64 (b+(1:Int))) c))) else some ⟨o_Z28,(true,())⟩):=(hw _ _).trans (by kernel_rfl)
theorem Z28.j0_eq(R:Run)(hw:R.ok)(N:Nat)(a:List Int)(b:Bool)(c:vK):Z28.j0 R N a b c=(bif b then some ⟨o_Z28,(false,())⟩ else(Z28.l1 R N N a (0:Int) c)):=(hw _ _).trans (by kernel_rfl)
theorem Z28.ev(R:Run)(N:Nat)(a0:vK)(a1:List Int):qqm E R sg_Z28 pol_Z28 F_Z28 N [⟨yK,a0⟩,⟨yL,a1⟩]=(bif ((List.length a1:Int) != (List.length a0:Int)) then(Z28.j0 R N a1 true a0) else((qce R n_Z102 o_Z102 [⟨yL,a1⟩,⟨(.fn n_Z29 .nil),()⟩]).bind fun r11=>(Z28.j0 R N a1 r11.1 a0))):=by kernel_rfl
def Z96.j0(R:Run)(N:Nat)(a:List Int)(b:Bool):Option Dv:=R.w (some ⟨(.c (.d yL a)::(zd 3 (.c (.d .bool b)::(zd 3 [])))),(zo 9 [])⟩) fun st=>eC R pol_Z96 N [1,0,1] F_Z96 st (kS R pol_Z96 3 N [1,1] F_Z96 (qqQ E sg_Z96 F_Z96))
theorem Z96.j0_eq(R:Run)(hw:R.ok)(N:Nat)(a:List Int)(b:Bool):Z96.j0 R N a b=(bif b then some ⟨o_Z96,(([]:List Int),())⟩ else((chk (decide ((List.length ([]:List Int)+List.length a)*8≤70368744177664))).bind fun _=>some ⟨o_Z96,((([]:List Int)++a),())⟩)):=(hw _ _).trans (by kernel_rfl)
theorem Z96.ev(R:Run)(N:Nat)(a0:List Int):qqm E R sg_Z96 pol_Z96 F_Z96 N [⟨yL,a0⟩]=(bif (List.isEmpty a0) then(qn5 (Z96.j0 R N a0 true) (Z96.j0 R N a0 false)) else(Z96.j0 R N a0 false)):=by kernel_rfl
def Z38.l0(R:Run)(N n:Nat)(a:vK)(b e:Int)(f:vK):Option Dv:=R.w (some ⟨(zd 3 (.c (.arr 16)::(V.dead::(V.dead::(.c (.d yK a)::(.c (.d yI b)::(.c (.d yI e)::(zd 10 [])))))))),(zo 16 (some (.arr yL f true false false)::(zo 4 [])))⟩) fun st=>lC R pol_Z38 3 N [1,1,0,1,0,0] F_Z38 n st (kB R pol_Z38 0 (kS R pol_Z38 7 N [1,1,1] F_Z38 (qqQ E sg_Z38 F_Z38)))
theorem Z38.l0_succ(R:Run)(hw:R.ok)(N n:Nat)(a:vK)(b c:Int)(d:vK):Z38.l0 R N (n+1) a b c d=(bif (decide (c<b)) then((idx? a c).bind fun y5=>((qce R n_Z96 o_Z96 [⟨yL,(y5,()).1⟩]).bind fun r6=>((chk (decide ((List.length d+List.length [r6.1])*24≤70368744177664))).bind fun _=>(Z38.l0 R N n a b (w64 (c+(1:Int))) (d++[r6.1]))))) else some ⟨o_Z38,(d,())⟩):=(hw _ _).trans (by kernel_rfl)
theorem Z38.ev(R:Run)(N:Nat)(a0:vK):qqm E R sg_Z38 pol_Z38 F_Z38 N [⟨yK,a0⟩]=(Z38.l0 R N N a0 (List.length a0:Int) (0:Int) ([]:List (List Int))):=by kernel_rfl
def Z109.l0(R:Run)(N n:Nat)(a b:List Int)(e f:Int):Option Dv:=R.w (some ⟨(.c (.d yL a)::(.c (.d yL b)::(zd 10 (.c (.d yI e)::(.c (.d yI f)::(zd 12 [])))))),(zo 28 [])⟩) fun st=>lC R pol_Z109 4 N [1,1,0,1,0,0] F_Z109 n st (kB R pol_Z109 0 (kS R pol_Z109 9 N [1,1,1] F_Z109 (qqQ E sg_Z109 F_Z109)))
theorem Z109.l0_succ(R:Run)(hw:R.ok)(N n:Nat)(a b:List Int)(c d:Int):Z109.l0 R N (n+1) a b c d=(bif (decide (d<c)) then((idx? a d).bind fun y5=>((idx? b d).bind fun y6=>(bif ((y5,()).1 != (y6,()).1) then some ⟨o_Z109,(false,())⟩ else(Z109.l0 R N n a b c (w64 (d+(1:Int))))))) else some ⟨o_Z109,(true,())⟩):=(hw _ _).trans (by kernel_rfl)
theorem Z109.ev(R:Run)(N:Nat)(a0 a1:List Int):qqm E R sg_Z109 pol_Z109 F_Z109 N [⟨yL,a0⟩,⟨yL,a1⟩]=(bif ((List.length a0:Int) != (List.length a1:Int)) then some ⟨o_Z109,(false,())⟩ else(Z109.l0 R N N a0 a1 (List.length a0:Int) (0:Int))):=by kernel_rfl
theorem Z54.ev(R:Run)(N:Nat)(a0:vK):qqm E R sg_Z54 pol_Z54 F_Z54 N [⟨yK,a0⟩]=((qce R n_Z38 o_Z38 [⟨yK,a0⟩]).bind fun r1=>((qce R n_Z122 o_Z122 [⟨yK,r1.1⟩,⟨(.fn n_Z35 .nil),()⟩]).bind fun r2=>((qce R n_Z97 o_Z97 [⟨yK,r2.1⟩,⟨(.fn n_Z109 .nil),()⟩]).bind fun r3=>some ⟨o_Z54,(r3.1,())⟩))):=by kernel_rfl
theorem Z78.ev(R:Run)(N:Nat)(a0:vK):qqm E R sg_Z78 pol_Z78 F_Z78 N [⟨yK,a0⟩]=some ⟨o_Z78,((List.length a0:Int),())⟩:=by kernel_rfl
def Z45.l0(R:Run)(N n:Nat)(a:vK)(b e:Int)(f:vK)(g:List Int):Option Dv:=R.w (some ⟨(V.dead::(V.dead::(.c (.box 2 0)::(V.dead::(V.dead::(.c (.arr 24)::(zd 7 (.c (.d yK a)::(.c (.d yI b)::(.c (.d yI e)::(zd 11 []))))))))))),(none::(none::(some (.box [.d yK f] false false)::(zo 21 (some (.arr yI g true false false)::(zo 4 []))))))⟩) fun st=>lC R pol_Z45 3 N [1,1,0,1,0,0] F_Z45 n st (kB R pol_Z45 0 (kS R pol_Z45 7 N [1,1,1] F_Z45 (qqQ E sg_Z45 F_Z45)))
theorem Z45.l0_succ(R:Run)(hw:R.ok)(N n:Nat)(a:vK)(b c:Int)(d:vK)(e:List Int):Z45.l0 R N (n+1) a b c d e=(bif (decide (c<b)) then((idx? a c).bind fun y8=>((qce R n_Z56 o_Z56 [⟨yK,d⟩,⟨yL,(y8,()).1⟩]).bind fun r9=>((chk (decide ((List.length e+List.length [r9.1])*8≤70368744177664))).bind fun _=>(Z45.l0 R N n a b (w64 (c+(1:Int))) d (e++[r9.1]))))) else some ⟨o_Z45,(e,())⟩):=(hw _ _).trans (by kernel_rfl)
theorem Z45.ev(R:Run)(N:Nat)(a0:vK)(a1:Int):qqm E R sg_Z45 pol_Z45 F_Z45 N [⟨yK,a0⟩,⟨yI,a1⟩]=((idx? a0 a1).bind fun y1=>((qce R n_Z46 o_Z46 [⟨yL,(y1,()).1⟩]).bind fun r2=>(Z45.l0 R N N r2.1 (List.length r2.1:Int) (0:Int) a0 ([]:List Int)))):=by kernel_rfl
def Z30.l1(R:Run)(N a n:Nat)(b e f:Int)(g:List Int)(h i:Int)(j:vK)(k:(List (Int×Int×Int×Unit))):Option Dv:=R.w (some ⟨(V.dead::(.c (.box 1 0)::(V.dead::(.c (.arr 28)::(.c (.d yI b)::(zd 4 (.c (.d yI e)::(.c (.d yI f)::(zd 4 (.c (.d yL g)::(.c (.d yI h)::(.c (.d yI i)::(zd 14 []))))))))))))),(none::(some (.box [.d yK j] false false)::(zo 26 (some (.arr (.st (.cons yI (.cons yI (.cons yI .nil)))) k true false false)::(zo 4 [])))))⟩) fun st=>lC R pol_Z30 6 N [1,1,0,1,0,0,1,1,0,0,1,1,0,0] F_Z30 n st (kB R pol_Z30 2 (kB R pol_Z30 1 (kS R pol_Z30 10 N [1,1,0,1,0,0,1,1,1] F_Z30 (kL R pol_Z30 3 N [1,1,0,1,0,0] F_Z30 a (kB R pol_Z30 0 (kS R pol_Z30 11 N [1,1,1] F_Z30 (qqQ E sg_Z30 F_Z30)))))))
def Z30.l0(R:Run)(N n:Nat)(a b:Int)(e:vK)(f:(List (Int×Int×Int×Unit))):Option Dv:=R.w (some ⟨(V.dead::(.c (.box 1 0)::(V.dead::(.c (.arr 28)::(zd 5 (.c (.d yI a)::(.c (.d yI b)::(zd 21 [])))))))),(none::(some (.box [.d yK e] false false)::(zo 26 (some (.arr (.st (.cons yI (.cons yI (.cons yI .nil)))) f true false false)::(zo 4 [])))))⟩) fun st=>lC R pol_Z30 3 N [1,1,0,1,0,0] F_Z30 n st (kB R pol_Z30 0 (kS R pol_Z30 11 N [1,1,1] F_Z30 (qqQ E sg_Z30 F_Z30)))
theorem Z30.l1_succ(R:Run)(hw:R.ok)(N a n:Nat)(b c d:Int)(e:List Int)(f g:Int)(h:vK)(i:(List (Int×Int×Int×Unit))):Z30.l1 R N a (n+1) b c d e f g h i=(bif (decide (g<f)) then((idx? e g).bind fun y15=>((chk (decide ((List.length i+List.length [(b,g,(y15,()).1,())])*24≤70368744177664))).bind fun _=>(Z30.l1 R N a n b c d e f (w64 (g+(1:Int))) h (i++[(b,g,(y15,()).1,())])))) else(Z30.l0 R N a c (w64 (d+(1:Int))) h i)):=(hw _ _).trans (by kernel_rfl)
theorem Z30.l0_succ(R:Run)(hw:R.ok)(N n:Nat)(a b:Int)(c:vK)(d:(List (Int×Int×Int×Unit))):Z30.l0 R N (n+1) a b c d=(bif (decide (b<a)) then((qce R n_Z45 o_Z45 [⟨yK,c⟩,⟨yI,b⟩]).bind fun r6=>(Z30.l1 R N n N b a b r6.1 (List.length r6.1:Int) (0:Int) c d)) else some ⟨o_Z30,(d,())⟩):=(hw _ _).trans (by kernel_rfl)
theorem Z30.ev(R:Run)(N:Nat)(a0:vK):qqm E R sg_Z30 pol_Z30 F_Z30 N [⟨yK,a0⟩]=((qce R n_Z78 o_Z78 [⟨yK,a0⟩]).bind fun r1=>(Z30.l0 R N N r1.1 (0:Int) a0 ([]:List (Int×Int×Int×Unit)))):=by kernel_rfl
theorem Z85.ev(R:Run)(N:Nat)(a0 a1:Int):qqm E R sg_Z85 pol_Z85 F_Z85 N [⟨yI,a0⟩,⟨yI,a1⟩]=(bif (a0==a1) then some ⟨o_Z85,((1:Int),())⟩ else some ⟨o_Z85,((0:Int),())⟩):=by kernel_rfl
end
end VeT
