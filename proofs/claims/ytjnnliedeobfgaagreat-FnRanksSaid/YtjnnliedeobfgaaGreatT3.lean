import Derived.Test.YtjnnliedeobfgaaGreatV2
import Derived.Test.YtjnnliedeobfgaaGreatProg
import Derived.KernelRfl
set_option linter.unusedVariables false
set_option linter.unusedSimpArgs false
open Go Go.Proofs Ve
set_option maxRecDepth 100000
namespace VeT
abbrev yM : Ty := .cons (.int .i64) (.cons (.int .i64) (.cons (.int .i64) (.cons (.sl (.int .i64)) .nil)))
abbrev yI : Ty := .int .i64
abbrev yL : Ty := .sl yI
abbrev yK : Ty := .sl yL
abbrev yN : Ty := .sl (.st yM)
abbrev yS : Ty := .cons yK (.cons yI (.cons yL (.cons yN .nil)))
abbrev yR : Ty := .cons (.sl (.int .u8)) (.cons yI (.cons (.int .u64) .nil))
abbrev yC : Ty := .cons yK .nil
abbrev vM := Int × Int × Int × List Int × Unit
abbrev vK := List (List Int)
abbrev vN := List vM
abbrev vS := vK × Int × List Int × vN × Unit
noncomputable section
def bodyOf(f:Func):Code:=f.body.getD .skip
def zd:Nat→List Ve.V→List Ve.V
  | 0,t=>t
  | n+1,t=>V.dead::zd n t
def zo:Nat→List (Option Ve.Obj)→List (Option Ve.Obj)
  | 0,t=>t
  | n+1,t=>none::zo n t
abbrev n_Z64:Nat:=4
abbrev n_Z65:Nat:=24
abbrev n_Z91:Nat:=25
abbrev n_Z6:Nat:=26
abbrev n_Z92:Nat:=27
abbrev n_Z5:Nat:=28
abbrev n_Z66:Nat:=29
abbrev n_Z94:Nat:=78
abbrev n_Z116:Nat:=83
abbrev n_Z104:Nat:=85
abbrev n_Z16:Nat:=94
abbrev n_Z14:Nat:=96
abbrev n_Z134:Nat:=97
abbrev n_Z135:Nat:=98
abbrev n_Z130:Nat:=99
abbrev n_Z20:Nat:=100
abbrev n_Z19:Nat:=101
abbrev n_Z34:Nat:=102
abbrev n_Z55:Nat:=103
abbrev n_Z36:Nat:=104
abbrev n_Z17:Nat:=105
abbrev n_Z126:Nat:=106
abbrev n_Z127:Nat:=107
abbrev n_Z9:Nat:=108
abbrev n_Z41:Nat:=109
abbrev n_Z35:Nat:=110
abbrev n_Z47:Nat:=112
abbrev n_Z11:Nat:=113
abbrev n_Z61:Nat:=114
abbrev n_Z123:Nat:=120
abbrev n_Z93:Nat:=121
abbrev n_Z117:Nat:=123
abbrev n_Z122:Nat:=125
abbrev n_Z54:Nat:=128
abbrev n_Z76:Nat:=129
abbrev n_Z37:Nat:=132
abbrev n_Z89:Nat:=133
abbrev n_Z62:Nat:=137
abbrev n_Z53:Nat:=143
abbrev n_Z48:Nat:=153
abbrev n_Z125:Nat:=156
abbrev n_Z121:Nat:=157
abbrev n_Z128:Nat:=158
abbrev n_Z45:Nat:=168
abbrev n_Z72:Nat:=175
abbrev n_Z101:Nat:=179
abbrev n_Z56:Nat:=181
abbrev n_Z60:Nat:=182
abbrev n_Z40:Nat:=192
abbrev n_Z96:Nat:=197
abbrev n_Z102:Nat:=198
abbrev n_Z58:Nat:=201
abbrev n_Z57:Nat:=202
abbrev n_Z21:Nat:=203
abbrev n_Z112:Nat:=206
abbrev n_Z120:Nat:=207
abbrev n_Z131:Nat:=210
abbrev n_Z26:Nat:=211
abbrev n_Z8:Nat:=212
abbrev n_Z29:Nat:=213
abbrev n_Z7:Nat:=216
abbrev n_Z15:Nat:=217
abbrev n_Z103:Nat:=218
abbrev n_Z114:Nat:=219
abbrev n_Z139:Nat:=220
abbrev n_Z136:Nat:=221
abbrev n_Z97:Nat:=222
abbrev n_Z39:Nat:=223
abbrev n_Z18:Nat:=224
abbrev n_Z23:Nat:=225
abbrev n_Z25:Nat:=226
abbrev n_Z129:Nat:=227
abbrev n_Z108:Nat:=228
abbrev n_Z12:Nat:=229
abbrev n_Z22:Nat:=230
abbrev n_Z73:Nat:=231
abbrev n_Z30:Nat:=232
abbrev n_Z10:Nat:=233
abbrev n_Z42:Nat:=234
abbrev n_Z90:Nat:=235
abbrev n_Z70:Nat:=236
abbrev n_Z27:Nat:=237
abbrev n_Z79:Nat:=238
abbrev n_Z52:Nat:=239
abbrev n_Z69:Nat:=241
abbrev n_Z31:Nat:=244
abbrev n_Z113:Nat:=246
abbrev n_Z119:Nat:=247
abbrev n_Z105:Nat:=248
abbrev n_Z115:Nat:=250
abbrev n_Z118:Nat:=251
abbrev n_Z85:Nat:=253
abbrev n_Z67:Nat:=254
abbrev n_Z63:Nat:=258
abbrev n_Z100:Nat:=266
abbrev n_Z99:Nat:=274
abbrev n_Z46:Nat:=281
abbrev n_Z80:Nat:=285
abbrev n_Z59:Nat:=292
abbrev n_Z137:Nat:=294
abbrev n_Z24:Nat:=295
abbrev n_Z132:Nat:=296
abbrev n_Z133:Nat:=297
abbrev n_Z110:Nat:=298
abbrev n_Z95:Nat:=299
abbrev n_Z109:Nat:=300
abbrev n_Z43:Nat:=301
abbrev n_Z13:Nat:=302
abbrev n_Z44:Nat:=303
abbrev n_Z2:Nat:=304
abbrev n_Z0:Nat:=305
abbrev n_Z71:Nat:=306
abbrev n_Z81:Nat:=307
abbrev n_Z28:Nat:=310
abbrev n_Z38:Nat:=311
abbrev n_Z124:Nat:=312
abbrev n_Z98:Nat:=313
abbrev n_Z107:Nat:=320
abbrev n_Z138:Nat:=323
abbrev n_Z49:Nat:=324
abbrev n_Z111:Nat:=325
abbrev n_Z106:Nat:=326
abbrev n_Z3:Nat:=327
abbrev n_Z1:Nat:=328
abbrev n_Z51:Nat:=340
abbrev n_Z50:Nat:=350
abbrev n_Z4:Nat:=351
abbrev F_Z64:Func:=Tryz.f4
abbrev F_Z65:Func:=Tryz.f24
abbrev F_Z91:Func:=Tryz.f25
abbrev F_Z6:Func:=Tryz.f26
abbrev F_Z92:Func:=Tryz.f27
abbrev F_Z5:Func:=Tryz.f28
abbrev F_Z66:Func:=Tryz.f29
abbrev F_Z94:Func:=Tryz.f78
abbrev F_Z116:Func:=Tryz.f83
abbrev F_Z104:Func:=Tryz.f85
abbrev F_Z16:Func:=Tryz.f94
abbrev F_Z14:Func:=Tryz.f96
abbrev F_Z134:Func:=Tryz.f97
abbrev F_Z135:Func:=Tryz.f98
abbrev F_Z130:Func:=Tryz.f99
abbrev F_Z20:Func:=Tryz.f100
abbrev F_Z19:Func:=Tryz.f101
abbrev F_Z34:Func:=Tryz.f102
abbrev F_Z55:Func:=Tryz.f103
abbrev F_Z36:Func:=Tryz.f104
abbrev F_Z17:Func:=Tryz.f105
abbrev F_Z126:Func:=Tryz.f106
abbrev F_Z127:Func:=Tryz.f107
abbrev F_Z9:Func:=Tryz.f108
abbrev F_Z41:Func:=Tryz.f109
abbrev F_Z35:Func:=Tryz.f110
abbrev F_Z47:Func:=Tryz.f112
abbrev F_Z11:Func:=Tryz.f113
abbrev F_Z61:Func:=Tryz.f114
abbrev F_Z123:Func:=Tryz.f120
abbrev F_Z93:Func:=Tryz.f121
abbrev F_Z117:Func:=Tryz.f123
abbrev F_Z122:Func:=Tryz.f125
abbrev F_Z54:Func:=Tryz.f128
abbrev F_Z76:Func:=Tryz.f129
abbrev F_Z37:Func:=Tryz.f132
abbrev F_Z89:Func:=Tryz.f133
abbrev F_Z62:Func:=Tryz.f137
abbrev F_Z53:Func:=Tryz.f143
abbrev F_Z48:Func:=Tryz.f153
abbrev F_Z125:Func:=Tryz.f156
abbrev F_Z121:Func:=Tryz.f157
abbrev F_Z128:Func:=Tryz.f158
abbrev F_Z45:Func:=Tryz.f168
abbrev F_Z72:Func:=Tryz.f175
abbrev F_Z101:Func:=Tryz.f179
abbrev F_Z56:Func:=Tryz.f181
abbrev F_Z60:Func:=Tryz.f182
abbrev F_Z40:Func:=Tryz.f192
abbrev F_Z96:Func:=Tryz.f197
abbrev F_Z102:Func:=Tryz.f198
abbrev F_Z58:Func:=Tryz.f201
abbrev F_Z57:Func:=Tryz.f202
abbrev F_Z21:Func:=Tryz.f203
abbrev F_Z112:Func:=Tryz.f206
abbrev F_Z120:Func:=Tryz.f207
abbrev F_Z131:Func:=Tryz.f210
abbrev F_Z26:Func:=Tryz.f211
abbrev F_Z8:Func:=Tryz.f212
abbrev F_Z29:Func:=Tryz.f213
abbrev F_Z7:Func:=Tryz.f216
abbrev F_Z15:Func:=Tryz.f217
abbrev F_Z103:Func:=Tryz.f218
abbrev F_Z114:Func:=Tryz.f219
abbrev F_Z139:Func:=Tryz.f220
abbrev F_Z136:Func:=Tryz.f221
abbrev F_Z97:Func:=Tryz.f222
abbrev F_Z39:Func:=Tryz.f223
abbrev F_Z18:Func:=Tryz.f224
abbrev F_Z23:Func:=Tryz.f225
abbrev F_Z25:Func:=Tryz.f226
abbrev F_Z129:Func:=Tryz.f227
abbrev F_Z108:Func:=Tryz.f228
abbrev F_Z12:Func:=Tryz.f229
abbrev F_Z22:Func:=Tryz.f230
abbrev F_Z73:Func:=Tryz.f231
abbrev F_Z30:Func:=Tryz.f232
abbrev F_Z10:Func:=Tryz.f233
abbrev F_Z42:Func:=Tryz.f234
abbrev F_Z90:Func:=Tryz.f235
abbrev F_Z70:Func:=Tryz.f236
abbrev F_Z27:Func:=Tryz.f237
abbrev F_Z79:Func:=Tryz.f238
abbrev F_Z52:Func:=Tryz.f239
abbrev F_Z69:Func:=Tryz.f241
abbrev F_Z31:Func:=Tryz.f244
abbrev F_Z113:Func:=Tryz.f246
abbrev F_Z119:Func:=Tryz.f247
abbrev F_Z105:Func:=Tryz.f248
abbrev F_Z115:Func:=Tryz.f250
abbrev F_Z118:Func:=Tryz.f251
abbrev F_Z85:Func:=Tryz.f253
abbrev F_Z67:Func:=Tryz.f254
abbrev F_Z63:Func:=Tryz.f258
abbrev F_Z100:Func:=Tryz.f266
abbrev F_Z99:Func:=Tryz.f274
abbrev F_Z46:Func:=Tryz.f281
abbrev F_Z80:Func:=Tryz.f285
abbrev F_Z59:Func:=Tryz.f292
abbrev F_Z137:Func:=Tryz.f294
abbrev F_Z24:Func:=Tryz.f295
abbrev F_Z132:Func:=Tryz.f296
abbrev F_Z133:Func:=Tryz.f297
abbrev F_Z110:Func:=Tryz.f298
abbrev F_Z95:Func:=Tryz.f299
abbrev F_Z109:Func:=Tryz.f300
abbrev F_Z43:Func:=Tryz.f301
abbrev F_Z13:Func:=Tryz.f302
abbrev F_Z44:Func:=Tryz.f303
abbrev F_Z2:Func:=Tryz.f304
abbrev F_Z0:Func:=Tryz.f305
abbrev F_Z71:Func:=Tryz.f306
abbrev F_Z81:Func:=Tryz.f307
abbrev F_Z28:Func:=Tryz.f310
abbrev F_Z38:Func:=Tryz.f311
abbrev F_Z124:Func:=Tryz.f312
abbrev F_Z98:Func:=Tryz.f313
abbrev F_Z107:Func:=Tryz.f320
abbrev F_Z138:Func:=Tryz.f323
abbrev F_Z49:Func:=Tryz.f324
abbrev F_Z111:Func:=Tryz.f325
abbrev F_Z106:Func:=Tryz.f326
abbrev F_Z3:Func:=Tryz.f327
abbrev F_Z1:Func:=Tryz.f328
abbrev F_Z51:Func:=Tryz.f340
abbrev F_Z50:Func:=Tryz.f350
abbrev F_Z4:Func:=Tryz.f351
abbrev o_Z64:Ty:=(.cons .bool .nil)
def sg_Z64:Sig:=⟨[(false,1)],[],o_Z64,[(false,1)],[],[]⟩
abbrev o_Z65:Ty:=(.cons .bool .nil)
def sg_Z65:Sig:=⟨[(false,1)],[],o_Z65,[(false,1)],[],[]⟩
abbrev o_Z91:Ty:=(.cons yK (.cons yK (.cons yL (.cons yI (.cons yI .nil)))))
def sg_Z91:Sig:=⟨[(false,1)],[],o_Z91,[(true,1),(true,1),(false,1),(false,1),(false,1)],[.imm,.imm,.deep,.imm,.imm],[]⟩
abbrev o_Z6:Ty:=(.cons yI (.cons yI .nil))
def sg_Z6:Sig:=⟨[(true,1),(true,1),(false,1),(false,1),(false,1)],[],o_Z6,[(false,1),(false,1)],[],[]⟩
abbrev o_Z92:Ty:=(.cons yK (.cons yI .nil))
def sg_Z92:Sig:=⟨[(true,1),(false,1),(false,1)],[],o_Z92,[(false,1),(false,1)],[.deep,.imm],[]⟩
abbrev o_Z5:Ty:=(.cons yL (.cons yI .nil))
def sg_Z5:Sig:=⟨[(true,1),(true,1),(true,1),(false,1),(false,1)],[],o_Z5,[(false,1),(false,1)],[.deep,.imm],[]⟩
abbrev o_Z66:Ty:=(.cons .bool .nil)
def sg_Z66:Sig:=⟨[(false,1),(false,1)],[],o_Z66,[(false,1)],[],[]⟩
abbrev o_Z94:Ty:=(.cons (.ptr yR) .nil)
def sg_Z94:Sig:=⟨[(false,1)],[],o_Z94,[(false,1)],[.bx],[]⟩
abbrev o_Z116:Ty:=(.cons .bool .nil)
def sg_Z116:Sig:=⟨[(false,1)],[],o_Z116,[(false,1)],[],[]⟩
abbrev o_Z104:Ty:=(.cons yI (.cons (.ptr yR) .nil))
def sg_Z104:Sig:=⟨[(false,1),(false,1)],[.iob,.imm],o_Z104,[(false,1)],[],[(.ptr yR)]⟩
abbrev o_Z16:Ty:=(.cons yL .nil)
def sg_Z16:Sig:=⟨[(true,4),(false,1)],[],o_Z16,[(false,1)],[.deep],[]⟩
abbrev o_Z14:Ty:=(.cons yL .nil)
def sg_Z14:Sig:=⟨[(false,1),(false,1),(false,1),(false,1)],[],o_Z14,[(false,1)],[.deep],[]⟩
abbrev o_Z134:Ty:=(.cons yK (.cons yK (.cons yL (.cons (.ptr yR) .nil))))
def sg_Z134:Sig:=⟨[(false,1)],[.iob],o_Z134,[(true,1),(true,1),(false,1)],[.imm,.imm,.deep],[(.ptr yR)]⟩
abbrev o_Z135:Ty:=(.cons yI (.cons (.ptr yR) .nil))
def sg_Z135:Sig:=⟨[(false,1)],[.iob],o_Z135,[(false,1)],[],[(.ptr yR)]⟩
abbrev o_Z130:Ty:=(.cons yI (.cons (.ptr yR) .nil))
def sg_Z130:Sig:=⟨[(false,1)],[.iob],o_Z130,[(false,1)],[],[(.ptr yR)]⟩
abbrev o_Z20:Ty:=(.cons yI .nil)
def sg_Z20:Sig:=⟨[(true,1),(true,1),(false,1),(false,1),(false,1),(false,1)],[],o_Z20,[(false,1)],[],[]⟩
abbrev o_Z19:Ty:=yM
def sg_Z19:Sig:=⟨[(true,1),(true,1),(false,1),(false,1),(false,1)],[],o_Z19,[(true,4)],[.imm,.imm,.imm,.deep],[]⟩
abbrev o_Z34:Ty:=yC
def sg_Z34:Sig:=⟨[(true,1),(false,1),(false,1)],[],o_Z34,[(false,1)],[.own],[]⟩
abbrev o_Z55:Ty:=(.cons yI .nil)
def sg_Z55:Sig:=⟨[(false,1)],[],o_Z55,[(false,1)],[],[]⟩
abbrev o_Z36:Ty:=yC
def sg_Z36:Sig:=⟨[(true,3),(false,1)],[],o_Z36,[(false,1)],[.own],[]⟩
abbrev o_Z17:Ty:=(.cons yI (.cons yI yC))
def sg_Z17:Sig:=⟨[(true,1),(false,1),(false,1)],[],o_Z17,[(true,3)],[.imm,.imm,.deep],[]⟩
abbrev o_Z126:Ty:=(.cons yI .nil)
def sg_Z126:Sig:=⟨[(false,1),(false,1),(false,1)],[],o_Z126,[(false,1)],[],[(.ptr yC)]⟩
abbrev o_Z127:Ty:=yC
def sg_Z127:Sig:=⟨[(false,1),(false,1),(false,1)],[],o_Z127,[(false,1)],[.deep],[(.ptr yC)]⟩
abbrev o_Z9:Ty:=(.cons .bool .nil)
def sg_Z9:Sig:=⟨[(true,1)],[],o_Z9,[(false,1)],[],[]⟩
abbrev o_Z41:Ty:=(.cons .bool .nil)
def sg_Z41:Sig:=⟨[(true,1),(true,1),(false,1)],[],o_Z41,[(false,1)],[],[]⟩
abbrev o_Z35:Ty:=(.cons yL .nil)
def sg_Z35:Sig:=⟨[(true,1),(false,1),(false,1)],[],o_Z35,[(false,1)],[.deep],[]⟩
abbrev o_Z47:Ty:=yC
def sg_Z47:Sig:=⟨[(true,4)],[],o_Z47,[(false,1)],[.deep],[]⟩
abbrev o_Z11:Ty:=(.cons .bool .nil)
def sg_Z11:Sig:=⟨[(false,1)],[],o_Z11,[(false,1)],[],[]⟩
abbrev o_Z61:Ty:=(.cons .bool .nil)
def sg_Z61:Sig:=⟨[(false,1),(false,1),(false,1)],[],o_Z61,[(false,1)],[],[]⟩
abbrev o_Z123:Ty:=(.cons .bool .nil)
def sg_Z123:Sig:=⟨[(false,1)],[],o_Z123,[(false,1)],[],[(.ptr yC)]⟩
abbrev o_Z93:Ty:=(.cons .bool .nil)
def sg_Z93:Sig:=⟨[(false,1)],[],o_Z93,[(false,1)],[],[]⟩
abbrev o_Z117:Ty:=(.cons yK (.cons (.ptr yR) .nil))
def sg_Z117:Sig:=⟨[(false,1)],[.iob],o_Z117,[(true,1)],[.own],[(.ptr yR)]⟩
abbrev o_Z122:Ty:=(.cons yL .nil)
def sg_Z122:Sig:=⟨[(false,1),(false,1)],[],o_Z122,[(false,1)],[.deep],[(.ptr yC)]⟩
abbrev o_Z54:Ty:=(.cons yL .nil)
def sg_Z54:Sig:=⟨[(true,1),(false,1)],[],o_Z54,[(false,1)],[.deep],[]⟩
abbrev o_Z76:Ty:=(.cons .bool .nil)
def sg_Z76:Sig:=⟨[(false,1),(false,1)],[],o_Z76,[(false,1)],[],[]⟩
abbrev o_Z37:Ty:=(.cons yI .nil)
def sg_Z37:Sig:=⟨[(true,1),(false,1)],[],o_Z37,[(false,1)],[],[]⟩
abbrev o_Z89:Ty:=(.cons yI .nil)
def sg_Z89:Sig:=⟨[(false,1),(false,1)],[],o_Z89,[(false,1)],[],[]⟩
abbrev o_Z62:Ty:=yM
def sg_Z62:Sig:=⟨[(false,1),(false,1),(false,1)],[],o_Z62,[(true,4)],[.imm,.imm,.imm,.deep],[]⟩
abbrev o_Z53:Ty:=yC
def sg_Z53:Sig:=⟨[(true,4)],[],o_Z53,[(false,1)],[.deep],[]⟩
abbrev o_Z48:Ty:=(.cons yI .nil)
def sg_Z48:Sig:=⟨[(true,1),(true,1),(false,1)],[],o_Z48,[(false,1)],[],[]⟩
abbrev o_Z125:Ty:=(.cons .bool .nil)
def sg_Z125:Sig:=⟨[(false,1)],[],o_Z125,[(false,1)],[],[]⟩
abbrev o_Z121:Ty:=(.cons yI .nil)
def sg_Z121:Sig:=⟨[(false,1),(false,1)],[],o_Z121,[(false,1)],[],[(.ptr yC)]⟩
abbrev o_Z128:Ty:=yM
def sg_Z128:Sig:=⟨[(false,1),(false,1),(false,1)],[],o_Z128,[(true,4)],[.imm,.imm,.imm,.deep],[(.ptr yC)]⟩
abbrev o_Z45:Ty:=(.cons .bool .nil)
def sg_Z45:Sig:=⟨[(false,1)],[],o_Z45,[(false,1)],[],[]⟩
abbrev o_Z72:Ty:=(.cons yL .nil)
def sg_Z72:Sig:=⟨[(false,1)],[],o_Z72,[(false,1)],[.deep],[]⟩
abbrev o_Z101:Ty:=(.cons yI (.cons (.ptr yR) .nil))
def sg_Z101:Sig:=⟨[(false,1),(false,1)],[.iob,.imm],o_Z101,[(false,1)],[],[(.ptr yR)]⟩
abbrev o_Z56:Ty:=(.cons yI .nil)
def sg_Z56:Sig:=⟨[(false,1)],[],o_Z56,[(false,1)],[],[]⟩
abbrev o_Z60:Ty:=(.cons yL .nil)
def sg_Z60:Sig:=⟨[(true,1)],[],o_Z60,[(false,1)],[.deep],[]⟩
abbrev o_Z40:Ty:=(.cons .bool .nil)
def sg_Z40:Sig:=⟨[(false,1)],[],o_Z40,[(false,1)],[],[]⟩
abbrev o_Z96:Ty:=(.cons .bool .nil)
def sg_Z96:Sig:=⟨[(false,1),(false,1),(false,1)],[],o_Z96,[(false,1)],[],[]⟩
abbrev o_Z102:Ty:=(.cons yI (.cons (.ptr yR) .nil))
def sg_Z102:Sig:=⟨[(false,1)],[.iob],o_Z102,[(false,1)],[],[(.ptr yR)]⟩
abbrev o_Z58:Ty:=yM
def sg_Z58:Sig:=⟨[(true,4)],[],o_Z58,[(true,4)],[.imm,.imm,.imm,.deep],[]⟩
abbrev o_Z57:Ty:=(.cons yI (.cons yI yC))
def sg_Z57:Sig:=⟨[(false,1),(false,1),(false,1)],[],o_Z57,[(true,3)],[.imm,.imm,.deep],[]⟩
abbrev o_Z21:Ty:=yC
def sg_Z21:Sig:=⟨[(true,4)],[],o_Z21,[(false,1)],[.deep],[]⟩
abbrev o_Z112:Ty:=yM
def sg_Z112:Sig:=⟨[(false,1),(false,1),(false,1)],[],o_Z112,[(true,4)],[.imm,.imm,.imm,.deep],[]⟩
abbrev o_Z120:Ty:=(.cons yL .nil)
def sg_Z120:Sig:=⟨[(false,1),(false,1)],[],o_Z120,[(false,1)],[.deep],[(.ptr yC)]⟩
abbrev o_Z131:Ty:=(.cons yI .nil)
def sg_Z131:Sig:=⟨[(false,1),(false,1)],[],o_Z131,[(false,1)],[],[]⟩
abbrev o_Z26:Ty:=(.cons yI .nil)
def sg_Z26:Sig:=⟨[(false,1),(false,1),(false,1)],[],o_Z26,[(false,1)],[],[]⟩
abbrev o_Z8:Ty:=(.cons yL .nil)
def sg_Z8:Sig:=⟨[(true,4),(false,1)],[],o_Z8,[(false,1)],[],[]⟩
abbrev o_Z29:Ty:=(.cons yL .nil)
def sg_Z29:Sig:=⟨[(true,1),(false,1)],[],o_Z29,[(false,1)],[.deep],[]⟩
abbrev o_Z7:Ty:=(.cons yI .nil)
def sg_Z7:Sig:=⟨[(true,4),(false,1),(false,1)],[],o_Z7,[(false,1)],[],[]⟩
abbrev o_Z15:Ty:=(.cons yI .nil)
def sg_Z15:Sig:=⟨[(false,1),(false,1)],[],o_Z15,[(false,1)],[],[]⟩
abbrev o_Z103:Ty:=(.cons .bool (.cons (.ptr yR) .nil))
def sg_Z103:Sig:=⟨[(false,1),(false,1)],[.iob,.imm],o_Z103,[(false,1)],[],[(.ptr yR)]⟩
abbrev o_Z114:Ty:=(.cons yK (.cons (.ptr yR) .nil))
def sg_Z114:Sig:=⟨[(false,1)],[.iob],o_Z114,[(true,1)],[],[(.ptr yR)]⟩
abbrev o_Z139:Ty:=(.cons yL .nil)
def sg_Z139:Sig:=⟨[(false,1)],[],o_Z139,[(false,1)],[.deep],[(.ptr yC)]⟩
abbrev o_Z136:Ty:=(.cons .bool .nil)
def sg_Z136:Sig:=⟨[(false,1),(false,1),(false,1),(false,1)],[],o_Z136,[(false,1)],[],[(.ptr yC),(.ptr yC)]⟩
abbrev o_Z97:Ty:=(.cons yL .nil)
def sg_Z97:Sig:=⟨[(false,1)],[],o_Z97,[(false,1)],[.deep],[]⟩
abbrev o_Z39:Ty:=(.cons yI .nil)
def sg_Z39:Sig:=⟨[(true,1),(false,1),(false,1)],[],o_Z39,[(false,1)],[],[]⟩
abbrev o_Z18:Ty:=yM
def sg_Z18:Sig:=⟨[(true,1),(false,1),(false,1)],[],o_Z18,[(true,4)],[.imm,.imm,.imm,.deep],[]⟩
abbrev o_Z23:Ty:=(.cons .bool .nil)
def sg_Z23:Sig:=⟨[(true,3),(false,1)],[],o_Z23,[(false,1)],[],[]⟩
abbrev o_Z25:Ty:=yC
def sg_Z25:Sig:=⟨[(false,1)],[],o_Z25,[(false,1)],[.deep],[]⟩
abbrev o_Z129:Ty:=yC
def sg_Z129:Sig:=⟨[(true,4),(false,1)],[],o_Z129,[(false,1)],[.deep],[]⟩
abbrev o_Z108:Ty:=yC
def sg_Z108:Sig:=⟨[(false,1)],[],o_Z108,[(false,1)],[.deep],[(.ptr yM)]⟩
abbrev o_Z12:Ty:=(.cons .bool .nil)
def sg_Z12:Sig:=⟨[(false,1)],[],o_Z12,[(false,1)],[],[]⟩
abbrev o_Z22:Ty:=(.cons yI .nil)
def sg_Z22:Sig:=⟨[(false,1),(false,1)],[],o_Z22,[(false,1)],[],[]⟩
abbrev o_Z73:Ty:=(.cons .bool .nil)
def sg_Z73:Sig:=⟨[(false,1),(false,1)],[],o_Z73,[(false,1)],[],[]⟩
abbrev o_Z30:Ty:=yC
def sg_Z30:Sig:=⟨[(false,1)],[],o_Z30,[(false,1)],[.deep],[]⟩
abbrev o_Z10:Ty:=(.cons .bool .nil)
def sg_Z10:Sig:=⟨[(false,1),(false,1),(false,1)],[],o_Z10,[(false,1)],[],[.nil,(.ptr yC),(.ptr (.cons yI .nil))]⟩
abbrev o_Z42:Ty:=(.cons .bool .nil)
def sg_Z42:Sig:=⟨[(false,1),(false,1),(false,1),(false,1)],[],o_Z42,[(false,1)],[],[.nil,(.ptr yC),(.ptr yC),(.ptr (.cons yL .nil))]⟩
abbrev o_Z90:Ty:=(.cons yL .nil)
def sg_Z90:Sig:=⟨[(false,1)],[.io true],o_Z90,[],[],[]⟩
abbrev o_Z70:Ty:=(.cons yL .nil)
def sg_Z70:Sig:=⟨[(false,1)],[.take true],o_Z70,[(false,1)],[.deep],[]⟩
abbrev o_Z27:Ty:=(.cons yL (.cons yI yC))
def sg_Z27:Sig:=⟨[(false,1),(false,1),(false,1)],[.io false,.imm,.imm],o_Z27,[(false,1),(false,1)],[.deep,.imm],[]⟩
abbrev o_Z79:Ty:=(.cons .bool .nil)
def sg_Z79:Sig:=⟨[(false,1),(false,1)],[],o_Z79,[(false,1)],[],[]⟩
abbrev o_Z52:Ty:=(.cons yI .nil)
def sg_Z52:Sig:=⟨[(false,1),(false,1)],[],o_Z52,[(false,1)],[],[]⟩
abbrev o_Z69:Ty:=(.cons yL .nil)
def sg_Z69:Sig:=⟨[(false,1)],[],o_Z69,[(false,1)],[.deep],[]⟩
abbrev o_Z31:Ty:=yM
def sg_Z31:Sig:=⟨[(false,1),(false,1),(false,1),(false,1)],[],o_Z31,[(true,4)],[.imm,.imm,.imm,.deep],[]⟩
abbrev o_Z113:Ty:=(.cons .bool .nil)
def sg_Z113:Sig:=⟨[(false,1),(false,1)],[],o_Z113,[(false,1)],[],[]⟩
abbrev o_Z119:Ty:=(.cons yL .nil)
def sg_Z119:Sig:=⟨[(false,1),(false,1)],[],o_Z119,[(false,1)],[.deep],[]⟩
abbrev o_Z105:Ty:=(.cons .bool .nil)
def sg_Z105:Sig:=⟨[(false,1)],[],o_Z105,[(false,1)],[],[]⟩
abbrev o_Z115:Ty:=yC
def sg_Z115:Sig:=⟨[(false,1)],[],o_Z115,[(true,1)],[.own],[]⟩
abbrev o_Z118:Ty:=(.cons yL (.cons (.ptr yR) .nil))
def sg_Z118:Sig:=⟨[(false,1),(false,1),(false,1)],[.iob,.imm,.imm],o_Z118,[(false,1)],[],[(.ptr yR)]⟩
abbrev o_Z85:Ty:=(.cons yI .nil)
def sg_Z85:Sig:=⟨[(false,1),(false,1)],[],o_Z85,[(false,1)],[],[]⟩
abbrev o_Z67:Ty:=(.cons yI (.cons .bool .nil))
def sg_Z67:Sig:=⟨[(false,1),(false,1),(false,1)],[],o_Z67,[(false,1),(false,1)],[],[]⟩
abbrev o_Z63:Ty:=(.cons yI .nil)
def sg_Z63:Sig:=⟨[(false,1),(false,1)],[],o_Z63,[(false,1)],[],[]⟩
abbrev o_Z100:Ty:=(.cons .bool .nil)
def sg_Z100:Sig:=⟨[(false,1),(false,1)],[],o_Z100,[(false,1)],[],[]⟩
abbrev o_Z99:Ty:=(.cons .bool .nil)
def sg_Z99:Sig:=⟨[(false,1),(false,1),(false,1)],[],o_Z99,[(false,1)],[],[]⟩
abbrev o_Z46:Ty:=(.cons .bool .nil)
def sg_Z46:Sig:=⟨[(false,1)],[],o_Z46,[(false,1)],[],[]⟩
abbrev o_Z80:Ty:=(.cons yL .nil)
def sg_Z80:Sig:=⟨[(false,1),(false,1)],[.take true,.imm],o_Z80,[(false,1)],[.deep],[]⟩
abbrev o_Z59:Ty:=(.cons yI .nil)
def sg_Z59:Sig:=⟨[(false,1),(false,1),(false,1)],[],o_Z59,[(false,1)],[],[.nil,.nil,(.ptr yM)]⟩
abbrev o_Z137:Ty:=(.cons yL (.cons .bool .nil))
def sg_Z137:Sig:=⟨[(false,1),(false,1),(false,1)],[],o_Z137,[(false,1),(false,1)],[],[]⟩
abbrev o_Z24:Ty:=(.cons yL (.cons .bool .nil))
def sg_Z24:Sig:=⟨[(true,3),(false,1)],[],o_Z24,[(false,1),(false,1)],[.deep,.imm],[]⟩
abbrev o_Z132:Ty:=(.cons .bool .nil)
def sg_Z132:Sig:=⟨[(false,1),(false,1)],[],o_Z132,[(false,1)],[],[(.ptr yM)]⟩
abbrev o_Z133:Ty:=yM
def sg_Z133:Sig:=⟨[(false,1),(false,1)],[],o_Z133,[(true,4)],[.imm,.imm,.imm,.deep],[(.ptr yM)]⟩
abbrev o_Z110:Ty:=(.cons yI (.cons yI (.cons yI (.cons yL (.cons yL (.cons yI .nil))))))
def sg_Z110:Sig:=⟨[(false,1)],[],o_Z110,[(true,4),(false,1),(false,1)],[.imm,.imm,.imm,.deep,.deep,.imm],[(.ptr yM)]⟩
abbrev o_Z95:Ty:=(.cons .bool .nil)
def sg_Z95:Sig:=⟨[(false,1),(false,1)],[],o_Z95,[(false,1)],[],[]⟩
abbrev o_Z109:Ty:=(.cons yI .nil)
def sg_Z109:Sig:=⟨[(false,1),(false,1)],[],o_Z109,[(false,1)],[],[]⟩
abbrev o_Z43:Ty:=(.cons .bool .nil)
def sg_Z43:Sig:=⟨[(false,1)],[],o_Z43,[(false,1)],[],[]⟩
abbrev o_Z13:Ty:=(.cons .bool .nil)
def sg_Z13:Sig:=⟨[(false,1)],[],o_Z13,[(false,1)],[],[]⟩
abbrev o_Z44:Ty:=(.cons .bool .nil)
def sg_Z44:Sig:=⟨[(false,1)],[],o_Z44,[(false,1)],[],[]⟩
abbrev o_Z2:Ty:=(.cons yI .nil)
def sg_Z2:Sig:=⟨[(false,1)],[],o_Z2,[(false,1)],[],[]⟩
abbrev o_Z0:Ty:=(.cons yI .nil)
def sg_Z0:Sig:=⟨[(false,1),(false,1)],[],o_Z0,[(false,1)],[],[]⟩
abbrev o_Z71:Ty:=(.cons yI .nil)
def sg_Z71:Sig:=⟨[(false,1),(false,1)],[],o_Z71,[(false,1)],[],[]⟩
abbrev o_Z81:Ty:=(.cons yI .nil)
def sg_Z81:Sig:=⟨[(false,1),(false,1)],[],o_Z81,[(false,1)],[],[]⟩
abbrev o_Z28:Ty:=(.cons .bool .nil)
def sg_Z28:Sig:=⟨[(false,1),(false,1)],[],o_Z28,[(false,1)],[],[.nil,(.ptr (.cons yI .nil))]⟩
abbrev o_Z38:Ty:=(.cons yI .nil)
def sg_Z38:Sig:=⟨[(false,1),(false,1)],[],o_Z38,[(false,1)],[],[]⟩
abbrev o_Z124:Ty:=(.cons (.ptr yC) .nil)
def sg_Z124:Sig:=⟨[(false,1),(false,1)],[.iobo 0,.imm],o_Z124,[],[],[(.ptr yC)]⟩
abbrev o_Z98:Ty:=(.cons yL .nil)
def sg_Z98:Sig:=⟨[(false,1),(false,1)],[],o_Z98,[(false,1)],[.deep],[]⟩
abbrev o_Z107:Ty:=yM
def sg_Z107:Sig:=⟨[(false,1),(false,1)],[],o_Z107,[(true,4)],[.imm,.imm,.imm,.deep],[(.ptr yM),(.ptr yM)]⟩
abbrev o_Z138:Ty:=(.cons yI .nil)
def sg_Z138:Sig:=⟨[(false,1),(false,1),(false,1)],[],o_Z138,[(false,1)],[],[]⟩
abbrev o_Z49:Ty:=(.cons yL .nil)
def sg_Z49:Sig:=⟨[(true,3)],[],o_Z49,[(false,1)],[.deep],[]⟩
abbrev o_Z111:Ty:=(.cons yL (.cons .bool .nil))
def sg_Z111:Sig:=⟨[(false,1),(false,1)],[],o_Z111,[(false,1),(false,1)],[.deep,.imm],[(.ptr yM)]⟩
abbrev o_Z106:Ty:=(.cons yI .nil)
def sg_Z106:Sig:=⟨[(false,1),(false,1)],[],o_Z106,[(false,1)],[],[]⟩
abbrev o_Z3:Ty:=(.cons .bool .nil)
def sg_Z3:Sig:=⟨[(false,1)],[],o_Z3,[(false,1)],[],[]⟩
abbrev o_Z1:Ty:=(.cons yI .nil)
def sg_Z1:Sig:=⟨[(false,1),(false,1)],[],o_Z1,[(false,1)],[],[]⟩
abbrev o_Z51:Ty:=(.cons yI .nil)
def sg_Z51:Sig:=⟨[(false,1),(false,1),(false,1)],[],o_Z51,[(false,1)],[],[]⟩
abbrev o_Z50:Ty:=(.cons .bool .nil)
def sg_Z50:Sig:=⟨[(false,1)],[],o_Z50,[(false,1)],[],[]⟩
abbrev o_Z4:Ty:=(.cons .bool .nil)
def sg_Z4:Sig:=⟨[(false,1)],[],o_Z4,[(false,1)],[],[]⟩
def pol_Z64:Pol:=⟨140,[],[(13,⟨[3,4,5,6,7,10,14,15],[3,4,79],[],[],[],[],[]⟩)],[],[(1000078,⟨[3,4,5,6,7,10,78],[3,4],[],[],[],[],[]⟩)],[]⟩
def pol_Z65:Pol:=⟨7,[],[],[],[],[]⟩
def pol_Z91:Pol:=⟨31,[(13,[some 29]),(16,[none,none,some 30])],[],[],[],[]⟩
def pol_Z6:Pol:=⟨61,[(44,[some 60])],[(7,⟨[3,4,6,13,14,35,36,37],[6,13,46],[(14,46,yL,true)],[],[],[],[]⟩)],[],[],[]⟩
def pol_Z92:Pol:=⟨22,[(17,[some 21])],[],[],[],[]⟩
def pol_Z5:Pol:=⟨63,[],[(7,⟨[4,6,12,40,41,42],[6,55],[(12,55,yI,true)],[],[],[],[]⟩)],[],[(1000027,⟨[3,4,5,6,7,27],[5,6,7],[],[],[],[],[]⟩),(1000039,⟨[3,4,6,39],[6],[],[],[],[],[]⟩)],[]⟩
def pol_Z66:Pol:=⟨28,[],[(4,⟨[0,1,5],[],[],[],[],[],[]⟩)],[],[],[]⟩
def pol_Z94:Pol:=⟨7,[],[],[],[],[]⟩
def pol_Z116:Pol:=⟨6,[],[],[],[],[]⟩
def pol_Z104:Pol:=⟨22,[],[],[],[],[]⟩
def pol_Z16:Pol:=⟨29,[],[(3,⟨[1,2,5,8,9],[2,21],[(5,21,yI,true)],[],[],[],[]⟩)],[],[],[]⟩
def pol_Z14:Pol:=⟨38,[],[(3,⟨[0,1,2,3,9,12,13],[31],[(9,31,yI,true)],[],[],[],[]⟩)],[],[],[]⟩
def pol_Z134:Pol:=⟨92,[(15,[some 91]),(60,[some 90])],[(11,⟨[0,2,3,5,6,7,8,9,10],[2,3,5,6,27,89,91],[],[],[],[],[]⟩),(15,⟨[0,2,3,5,6,7,8,9,10,11,12],[2,3,5,6,27,89,91],[],[],[],[],[]⟩)],[],[(5,⟨[0,2,3,5,6],[2,3,5,6,89,91],[],[],[91],[],[(6,0)]⟩),(7,⟨[0,2,3,5,6],[2,3,5,6,89,91],[],[],[91],[],[(6,0)]⟩),(26,⟨[2,3,5,6,9],[2,3,5,6,27,89,91],[],[],[],[],[]⟩),(1000036,⟨[0,2,3,5,6,7,8,9,10,36],[2,3,5,6,27,89,91],[],[],[],[],[]⟩)],[]⟩
def pol_Z135:Pol:=⟨7,[],[],[],[],[]⟩
def pol_Z130:Pol:=⟨7,[],[],[],[],[]⟩
def pol_Z20:Pol:=⟨56,[],[(9,⟨[3,5,6,7,14],[6,7],[],[],[],[],[]⟩)],[],[(1000049,⟨[3,5,6,7,14,49],[6,7],[],[],[],[],[]⟩)],[]⟩
def pol_Z19:Pol:=⟨80,[(30,[none,none,none,some 79])],[(4,⟨[2,4,5,6,10,11,12,13,31,32,33],[5,6,10,13,79],[],[],[],[],[]⟩)],[],[],[]⟩
def pol_Z34:Pol:=⟨21,[(16,[some 20])],[],[],[],[]⟩
def pol_Z55:Pol:=⟨6,[],[],[],[],[]⟩
def pol_Z36:Pol:=⟨40,[(28,[some 39])],[(3,⟨[2,5,8,9,10],[2,21],[(5,21,yL,true)],[],[],[21],[]⟩)],[],[],[]⟩
def pol_Z17:Pol:=⟨23,[(18,[none,none,some 22])],[],[],[],[]⟩
def pol_Z126:Pol:=⟨42,[],[],[],[(1000014,⟨[0,1,14],[],[],[],[],[],[]⟩),(1000038,⟨[38],[],[],[],[],[],[]⟩)],[]⟩
def pol_Z127:Pol:=⟨23,[(18,[some 22])],[],[],[],[]⟩
def pol_Z9:Pol:=⟨41,[],[(2,⟨[1,6,7,8],[1],[],[],[1],[],[]⟩)],[],[(1000030,⟨[1,3,4,6,7,8,30],[1,3],[],[],[],[],[]⟩)],[]⟩
def pol_Z41:Pol:=⟨21,[],[],[],[],[]⟩
def pol_Z35:Pol:=⟨37,[(32,[some 36])],[(4,⟨[1,7,8,13,14,15],[27],[(8,27,yI,true)],[],[],[],[]⟩)],[],[],[]⟩
def pol_Z47:Pol:=⟨69,[(12,[some 68])],[(5,⟨[1,3,4,6,23,24],[1,61,68],[(6,61,yL,true)],[],[],[],[]⟩),(11,⟨[1,3,4,6,7,8,23,24,36,37,38],[1,32,61,68],[],[],[],[],[]⟩)],[],[],[]⟩
def pol_Z11:Pol:=⟨19,[],[(4,⟨[0,3],[],[],[],[],[],[]⟩)],[],[],[]⟩
def pol_Z61:Pol:=⟨18,[],[],[],[],[]⟩
def pol_Z123:Pol:=⟨66,[],[(4,⟨[0,3],[],[],[],[],[],[]⟩),(10,⟨[0,3,4,5],[],[],[],[],[],[]⟩)],[],[(1000047,⟨[0,3,4,47],[],[],[],[],[],[]⟩),(1000056,⟨[0,3,4,5,56],[],[],[],[],[],[]⟩)],[]⟩
def pol_Z93:Pol:=⟨6,[],[],[],[],[]⟩
def pol_Z117:Pol:=⟨52,[(15,[some 49]),(23,[some 50]),(47,[some 51])],[(9,⟨[0,2,3,4,5],[2,24,48],[],[],[],[24],[]⟩)],[],[(14,⟨[2,3],[2,24,48],[],[],[],[],[]⟩)],[]⟩
def pol_Z122:Pol:=⟨35,[],[(3,⟨[0,1,5,6],[7],[],[],[],[],[]⟩)],[],[],[]⟩
def pol_Z54:Pol:=⟨29,[],[(3,⟨[1,5,9,10,11],[24],[(5,24,yI,true)],[],[],[],[]⟩)],[],[],[]⟩
def pol_Z76:Pol:=⟨11,[],[],[],[],[]⟩
def pol_Z37:Pol:=⟨19,[],[],[],[],[]⟩
def pol_Z89:Pol:=⟨21,[],[(2,⟨[0,1,7,8],[],[],[],[],[],[]⟩)],[],[],[]⟩
def pol_Z62:Pol:=⟨15,[(10,[none,none,none,some 14])],[],[],[],[]⟩
def pol_Z53:Pol:=⟨24,[(14,[some 23])],[(3,⟨[1,3,6,7],[1,16],[(3,16,yL,true)],[],[],[],[]⟩)],[],[],[]⟩
def pol_Z48:Pol:=⟨25,[],[],[],[(1000007,⟨[2,3,4,7],[3,4],[],[],[],[],[]⟩)],[]⟩
def pol_Z125:Pol:=⟨11,[],[],[],[],[]⟩
def pol_Z121:Pol:=⟨27,[],[(2,⟨[0,1,5],[],[],[],[],[],[]⟩)],[],[],[]⟩
def pol_Z128:Pol:=⟨72,[(25,[none,none,none,some 71])],[(5,⟨[0,1,2,6,7,8,9,10],[6,9,71],[],[],[],[],[]⟩),(9,⟨[0,1,2,6,7,8,9,10,11,12],[6,9,71],[],[],[],[],[]⟩)],[],[(1000033,⟨[0,1,2,6,7,8,9,10,33],[6,9,71],[],[],[],[],[]⟩)],[]⟩
def pol_Z45:Pol:=⟨7,[],[],[],[],[]⟩
def pol_Z72:Pol:=⟨38,[(24,[some 37])],[(3,⟨[0,3,9,10,11],[],[],[],[],[],[]⟩),(11,⟨[6,25,26,27],[37],[],[],[],[],[]⟩)],[],[],[]⟩
def pol_Z101:Pol:=⟨14,[],[],[],[],[]⟩
def pol_Z56:Pol:=⟨6,[],[],[],[],[]⟩
def pol_Z60:Pol:=⟨25,[],[(3,⟨[3,7,8,9],[21],[(3,21,yI,true)],[],[],[],[]⟩)],[],[],[]⟩
def pol_Z40:Pol:=⟨6,[],[],[],[],[]⟩
def pol_Z96:Pol:=⟨18,[],[],[],[],[]⟩
def pol_Z102:Pol:=⟨63,[],[],[],[(4,⟨[0,3],[62],[],[],[],[],[]⟩)],[]⟩
def pol_Z58:Pol:=⟨16,[(10,[none,none,none,some 15])],[],[],[],[]⟩
def pol_Z57:Pol:=⟨32,[(11,[some 30]),(25,[some 31])],[],[],[],[]⟩
def pol_Z21:Pol:=⟨11,[(5,[some 10])],[],[],[],[]⟩
def pol_Z112:Pol:=⟨18,[],[],[],[],[]⟩
def pol_Z120:Pol:=⟨38,[],[(4,⟨[0,5,6,7],[15],[],[],[],[],[]⟩)],[],[(1000024,⟨[0,5,6,7,24],[15],[],[],[],[],[]⟩)],[]⟩
def pol_Z131:Pol:=⟨14,[],[],[],[],[]⟩
def pol_Z26:Pol:=⟨32,[],[(3,⟨[0,1,2,7,10,11],[],[],[],[],[],[]⟩)],[],[],[]⟩
def pol_Z8:Pol:=⟨22,[],[],[],[],[]⟩
def pol_Z29:Pol:=⟨29,[],[(3,⟨[2,5,13,14,15],[2,24],[(5,24,yI,true)],[],[],[],[]⟩)],[],[],[]⟩
def pol_Z7:Pol:=⟨23,[],[],[],[],[]⟩
def pol_Z15:Pol:=⟨12,[],[],[],[],[]⟩
def pol_Z103:Pol:=⟨11,[],[],[],[],[]⟩
def pol_Z114:Pol:=⟨59,[(6,[some 58])],[],[],[(15,⟨[2,3],[2,3,57],[],[],[],[],[(3,0)]⟩)],[]⟩
def pol_Z139:Pol:=⟨38,[],[(3,⟨[0,3,4],[5],[],[],[],[],[]⟩)],[],[],[]⟩
def pol_Z136:Pol:=⟨45,[],[(2,⟨[0,1,2,3,9],[],[],[],[],[],[]⟩)],[],[(1000040,⟨[0,1,2,3,9,40],[],[],[],[],[],[]⟩)],[]⟩
def pol_Z97:Pol:=⟨7,[],[],[],[],[]⟩
def pol_Z39:Pol:=⟨50,[],[(3,⟨[1,2,3,7,12,13,14],[3],[],[],[],[],[]⟩),(6,⟨[1,2,3,7,9,12,13,14,21,22,23],[3],[],[],[],[],[]⟩)],[],[(1000041,⟨[1,2,3,7,9,12,13,14,21,22,23,41],[3],[],[],[],[],[]⟩)],[]⟩
def pol_Z18:Pol:=⟨66,[(27,[none,none,none,some 65])],[(4,⟨[2,3,6,7,8,9,28,29,30],[3,6,9,65],[],[],[],[],[]⟩),(7,⟨[2,3,6,7,8,9,10,28,29,30,37,38,39],[3,6,9,65],[],[],[],[],[]⟩)],[],[],[]⟩
def pol_Z23:Pol:=⟨18,[],[],[],[],[]⟩
def pol_Z25:Pol:=⟨21,[(14,[some 20])],[(3,⟨[3,6,7,8],[16],[(3,16,yL,true)],[],[],[],[]⟩)],[],[],[]⟩
def pol_Z129:Pol:=⟨40,[(25,[some 39])],[(3,⟨[1,2,5,6],[2,7],[],[],[],[],[]⟩)],[],[],[]⟩
def pol_Z108:Pol:=⟨72,[],[(4,⟨[0,3,4,6,7],[3,16],[],[],[],[],[]⟩),(10,⟨[0,3,4,6,7,8,9],[3,16,32],[],[],[],[],[]⟩)],[],[],[]⟩
def pol_Z12:Pol:=⟨21,[],[],[],[],[]⟩
def pol_Z22:Pol:=⟨17,[],[],[],[],[]⟩
def pol_Z73:Pol:=⟨11,[],[],[],[],[]⟩
def pol_Z30:Pol:=⟨29,[(22,[some 28])],[(3,⟨[0,3,6,7],[24],[(3,24,yL,true)],[],[],[],[]⟩)],[],[],[]⟩
def pol_Z10:Pol:=⟨16,[],[],[],[],[]⟩
def pol_Z42:Pol:=⟨17,[],[],[],[],[]⟩
def pol_Z27:Pol:=⟨125,[(77,[some 123]),(110,[some 124])],[(4,⟨[0,1,2,8,9,16,17],[116,120],[(8,116,yI,true)],[],[],[],[]⟩),(17,⟨[0,1,2,8,9,10,11,16,17,79,80,81],[10,116,120],[],[],[],[],[]⟩)],[],[(13,⟨[0,1,2,8,9,10,11,16,17],[10,116,120],[],[],[],[],[]⟩),(16,⟨[0,1,2,8,9,10,11,16,17],[10,116,120],[],[],[],[],[]⟩),(1000095,⟨[0,1,2,8,9,10,11,14,15,16,17,79,80,81,95],[10,116,120],[],[],[],[],[]⟩)],[]⟩
def pol_Z79:Pol:=⟨11,[],[],[],[],[]⟩
def pol_Z52:Pol:=⟨14,[],[],[],[],[]⟩
def pol_Z69:Pol:=⟨9,[],[],[],[(1000004,⟨[0,4],[],[],[],[],[],[]⟩)],[]⟩
def pol_Z31:Pol:=⟨40,[],[(3,⟨[2,3,8,9,16,17],[8,9,31],[],[(9,3,31,yI,true)],[],[],[]⟩),(6,⟨[2,3,8,9,10,16,17,20,21],[8,9,31],[],[(9,3,31,yI,true)],[],[],[]⟩)],[],[],[]⟩
def pol_Z113:Pol:=⟨42,[],[(4,⟨[0,1,5],[],[],[],[],[],[]⟩)],[],[],[]⟩
def pol_Z119:Pol:=⟨19,[(9,[some 18])],[],[],[],[]⟩
def pol_Z105:Pol:=⟨19,[],[(4,⟨[0,3],[],[],[],[],[],[]⟩)],[],[],[]⟩
def pol_Z115:Pol:=⟨20,[],[(3,⟨[0,2,3,4],[2,3,5],[],[],[],[5],[]⟩)],[],[],[]⟩
def pol_Z118:Pol:=⟨27,[],[(3,⟨[0,1,7,8],[24],[],[],[],[],[(1000007,0)]⟩)],[],[],[]⟩
def pol_Z85:Pol:=⟨21,[],[(2,⟨[0,1,7,8],[],[],[],[],[],[]⟩)],[],[],[]⟩
def pol_Z67:Pol:=⟨52,[],[(3,⟨[0,1,2,8,9,10],[],[],[],[],[],[]⟩)],[],[],[]⟩
def pol_Z63:Pol:=⟨7,[],[],[],[],[]⟩
def pol_Z100:Pol:=⟨28,[],[(4,⟨[0,1,5],[],[],[],[],[],[]⟩)],[],[],[]⟩
def pol_Z99:Pol:=⟨41,[],[(2,⟨[0,1,2,7],[],[],[],[],[],[]⟩)],[],[(1000037,⟨[0,1,2,7,37],[],[],[],[],[],[]⟩)],[]⟩
def pol_Z46:Pol:=⟨6,[],[],[],[],[]⟩
def pol_Z59:Pol:=⟨13,[],[],[],[],[]⟩
def pol_Z137:Pol:=⟨34,[],[(3,⟨[0,1,2,8,9],[],[],[],[],[],[(1000008,0)]⟩)],[],[],[]⟩
def pol_Z24:Pol:=⟨53,[],[(4,⟨[1,2,6,7,12,13,14],[2,25],[(6,25,yI,true)],[],[],[],[]⟩)],[],[],[]⟩
def pol_Z132:Pol:=⟨16,[],[],[],[],[]⟩
def pol_Z133:Pol:=⟨21,[(17,[none,none,none,some 20])],[],[],[],[]⟩
def pol_Z110:Pol:=⟨248,[(37,[some 247])],[(8,⟨[0,2,5,6,7,8,9,10,11],[2,5,47,247],[],[],[],[],[]⟩),(11,⟨[0,2,5,6,7,8,9,10,11,12],[2,5,47,247],[],[],[],[],[]⟩),(17,⟨[0,2,5,6,7,8,9,10,11,12,13],[2,5,47,247],[],[],[],[],[]⟩),(26,⟨[0,2,5,6,7,8,9,10,11,16,17],[2,5,47,247],[],[],[],[],[]⟩),(30,⟨[0,2,5,6,7,8,9,10,11,18],[2,5,47,247],[],[],[],[],[]⟩),(35,⟨[0,2,5,6,7,8,9,10,11,18,19,20],[2,5,47,247],[],[],[],[],[]⟩)],[],[(2,⟨[0,2,5],[2,5,247],[],[],[],[],[]⟩),(22,⟨[0,2,5,6,7,8,9,10,11],[2,5,47,247],[],[],[],[],[]⟩),(1000058,⟨[0,2,5,6,7,8,9,10,11,58],[2,5,47,247],[],[],[],[],[]⟩),(1000079,⟨[0,2,5,6,7,8,9,10,11,12,79],[2,5,47,247],[],[],[],[],[]⟩),(1000200,⟨[0,2,5,6,7,8,9,10,11,18,19,200],[2,5,47,247],[],[],[],[],[]⟩)],[]⟩
def pol_Z95:Pol:=⟨20,[],[(2,⟨[0,1,5],[],[],[],[],[],[]⟩)],[],[],[]⟩
def pol_Z109:Pol:=⟨14,[],[],[],[],[]⟩
def pol_Z43:Pol:=⟨21,[],[(2,⟨[0,3],[],[],[],[],[],[]⟩)],[],[],[]⟩
def pol_Z13:Pol:=⟨7,[],[],[],[],[]⟩
def pol_Z44:Pol:=⟨6,[],[],[],[],[]⟩
def pol_Z2:Pol:=⟨19,[],[(3,⟨[3,6,7,8],[],[],[],[],[],[]⟩)],[],[],[]⟩
def pol_Z0:Pol:=⟨22,[],[],[],[],[]⟩
def pol_Z71:Pol:=⟨38,[],[(2,⟨[0,1,9,10,11],[],[],[],[],[],[]⟩)],[],[],[]⟩
def pol_Z81:Pol:=⟨21,[],[(2,⟨[0,1,7,8],[],[],[],[],[],[]⟩)],[],[],[]⟩
def pol_Z28:Pol:=⟨11,[],[],[],[],[]⟩
def pol_Z38:Pol:=⟨12,[],[],[],[],[]⟩
def pol_Z124:Pol:=⟨76,[(57,[some 75])],[(2,⟨[0,1,4],[71,73],[],[],[],[],[]⟩),(6,⟨[0,1,5],[71,73],[],[],[],[],[]⟩)],[],[(1000019,⟨[0,1,4,19],[71,73],[],[],[],[],[]⟩),(1000044,⟨[0,1,5,44],[71,73],[],[],[],[],[]⟩)],[]⟩
def pol_Z98:Pol:=⟨51,[],[(4,⟨[0,1,5,6,7],[8],[],[],[],[],[]⟩)],[],[(10,⟨[0,1,5,6,7],[8],[],[],[],[],[]⟩),(1000024,⟨[0,1,5,6,7,24],[8],[],[],[],[],[]⟩)],[]⟩
def pol_Z107:Pol:=⟨81,[],[(3,⟨[0,1,4,5,6],[4,5,24],[],[],[],[],[]⟩)],[],[(2,⟨[0,1,4,5],[4,5,24],[],[],[],[],[]⟩)],[]⟩
def pol_Z138:Pol:=⟨27,[],[(2,⟨[0,1,2,7],[],[],[],[],[],[]⟩)],[],[],[]⟩
def pol_Z49:Pol:=⟨23,[],[(3,⟨[3,7,8,9],[17],[(3,17,yI,true)],[],[],[],[]⟩)],[],[],[]⟩
def pol_Z111:Pol:=⟨72,[],[(6,⟨[0,7,8,9,11,12],[7,8,34],[],[],[],[],[]⟩)],[],[],[]⟩
def pol_Z106:Pol:=⟨21,[],[(3,⟨[0,1,5,6],[],[],[],[],[],[]⟩)],[],[],[]⟩
def pol_Z3:Pol:=⟨7,[],[],[],[],[]⟩
def pol_Z1:Pol:=⟨22,[],[],[],[],[]⟩
def pol_Z51:Pol:=⟨29,[],[(2,⟨[0,1,2,7],[],[],[],[],[],[]⟩)],[],[],[]⟩
def pol_Z50:Pol:=⟨6,[],[],[],[],[]⟩
def pol_Z4:Pol:=⟨7,[],[],[],[],[]⟩
def sigL:List (Option Sig):=[none,none,none,none,some sg_Z64,none,none,none,none,none,none,none,none,none,none,none,none,none,none,none,none,none,none,none,some sg_Z65,some sg_Z91,some sg_Z6,some sg_Z92,some sg_Z5,some sg_Z66,none,none,none,none,none,none,none,none,none,none,none,none,none,none,none,none,none,none,none,none,none,none,none,none,none,none,none,none,none,none,none,none,none,none,none,none,none,none,none,none,none,none,none,none,none,none,none,none,some sg_Z94,none,none,none,none,some sg_Z116,none,some sg_Z104,none,none,none,none,none,none,none,none,some sg_Z16,none,some sg_Z14,some sg_Z134,some sg_Z135,some sg_Z130,some sg_Z20,some sg_Z19,some sg_Z34,some sg_Z55,some sg_Z36,some sg_Z17,some sg_Z126,some sg_Z127,some sg_Z9,some sg_Z41,some sg_Z35,none,some sg_Z47,some sg_Z11,some sg_Z61,none,none,none,none,none,some sg_Z123,some sg_Z93,none,some sg_Z117,none,some sg_Z122,none,none,some sg_Z54,some sg_Z76,none,none,some sg_Z37,some sg_Z89,none,none,none,some sg_Z62,none,none,none,none,none,some sg_Z53,none,none,none,none,none,none,none,none,none,some sg_Z48,none,none,some sg_Z125,some sg_Z121,some sg_Z128,none,none,none,none,none,none,none,none,none,some sg_Z45,none,none,none,none,none,none,some sg_Z72,none,none,none,some sg_Z101,none,some sg_Z56,some sg_Z60,none,none,none,none,none,none,none,none,none,some sg_Z40,none,none,none,none,some sg_Z96,some sg_Z102,none,none,some sg_Z58,some sg_Z57,some sg_Z21,none,none,some sg_Z112,some sg_Z120,none,none,some sg_Z131,some sg_Z26,some sg_Z8,some sg_Z29,none,none,some sg_Z7,some sg_Z15,some sg_Z103,some sg_Z114,some sg_Z139,some sg_Z136,some sg_Z97,some sg_Z39,some sg_Z18,some sg_Z23,some sg_Z25,some sg_Z129,some sg_Z108,some sg_Z12,some sg_Z22,some sg_Z73,some sg_Z30,some sg_Z10,some sg_Z42,some sg_Z90,some sg_Z70,some sg_Z27,some sg_Z79,some sg_Z52,none,some sg_Z69,none,none,some sg_Z31,none,some sg_Z113,some sg_Z119,some sg_Z105,none,some sg_Z115,some sg_Z118,none,some sg_Z85,some sg_Z67,none,none,none,some sg_Z63,none,none,none,none,none,none,none,some sg_Z100,none,none,none,none,none,none,none,some sg_Z99,none,none,none,none,none,none,some sg_Z46,none,none,none,some sg_Z80,none,none,none,none,none,none,some sg_Z59,none,some sg_Z137,some sg_Z24,some sg_Z132,some sg_Z133,some sg_Z110,some sg_Z95,some sg_Z109,some sg_Z43,some sg_Z13,some sg_Z44,some sg_Z2,some sg_Z0,some sg_Z71,some sg_Z81,none,none,some sg_Z28,some sg_Z38,some sg_Z124,some sg_Z98,none,none,none,none,none,none,some sg_Z107,none,none,some sg_Z138,some sg_Z49,some sg_Z111,some sg_Z106,some sg_Z3,some sg_Z1,none,none,none,none,none,none,none,none,none,none,none,some sg_Z51,none,none,none,none,none,none,none,none,none,some sg_Z50,some sg_Z4,none,none,none,none,none,none,none,none,none,none,none,none,none,none,none,none,none,none,none,none,none,none,none,none,none,none]
def fnL:List (Option (Func×Pol)):=[none,none,none,none,some (F_Z64,pol_Z64),none,none,none,none,none,none,none,none,none,none,none,none,none,none,none,none,none,none,none,some (F_Z65,pol_Z65),some (F_Z91,pol_Z91),some (F_Z6,pol_Z6),some (F_Z92,pol_Z92),some (F_Z5,pol_Z5),some (F_Z66,pol_Z66),none,none,none,none,none,none,none,none,none,none,none,none,none,none,none,none,none,none,none,none,none,none,none,none,none,none,none,none,none,none,none,none,none,none,none,none,none,none,none,none,none,none,none,none,none,none,none,none,some (F_Z94,pol_Z94),none,none,none,none,some (F_Z116,pol_Z116),none,some (F_Z104,pol_Z104),none,none,none,none,none,none,none,none,some (F_Z16,pol_Z16),none,some (F_Z14,pol_Z14),some (F_Z134,pol_Z134),some (F_Z135,pol_Z135),some (F_Z130,pol_Z130),some (F_Z20,pol_Z20),some (F_Z19,pol_Z19),some (F_Z34,pol_Z34),some (F_Z55,pol_Z55),some (F_Z36,pol_Z36),some (F_Z17,pol_Z17),some (F_Z126,pol_Z126),some (F_Z127,pol_Z127),some (F_Z9,pol_Z9),some (F_Z41,pol_Z41),some (F_Z35,pol_Z35),none,some (F_Z47,pol_Z47),some (F_Z11,pol_Z11),some (F_Z61,pol_Z61),none,none,none,none,none,some (F_Z123,pol_Z123),some (F_Z93,pol_Z93),none,some (F_Z117,pol_Z117),none,some (F_Z122,pol_Z122),none,none,some (F_Z54,pol_Z54),some (F_Z76,pol_Z76),none,none,some (F_Z37,pol_Z37),some (F_Z89,pol_Z89),none,none,none,some (F_Z62,pol_Z62),none,none,none,none,none,some (F_Z53,pol_Z53),none,none,none,none,none,none,none,none,none,some (F_Z48,pol_Z48),none,none,some (F_Z125,pol_Z125),some (F_Z121,pol_Z121),some (F_Z128,pol_Z128),none,none,none,none,none,none,none,none,none,some (F_Z45,pol_Z45),none,none,none,none,none,none,some (F_Z72,pol_Z72),none,none,none,some (F_Z101,pol_Z101),none,some (F_Z56,pol_Z56),some (F_Z60,pol_Z60),none,none,none,none,none,none,none,none,none,some (F_Z40,pol_Z40),none,none,none,none,some (F_Z96,pol_Z96),some (F_Z102,pol_Z102),none,none,some (F_Z58,pol_Z58),some (F_Z57,pol_Z57),some (F_Z21,pol_Z21),none,none,some (F_Z112,pol_Z112),some (F_Z120,pol_Z120),none,none,some (F_Z131,pol_Z131),some (F_Z26,pol_Z26),some (F_Z8,pol_Z8),some (F_Z29,pol_Z29),none,none,some (F_Z7,pol_Z7),some (F_Z15,pol_Z15),some (F_Z103,pol_Z103),some (F_Z114,pol_Z114),some (F_Z139,pol_Z139),some (F_Z136,pol_Z136),some (F_Z97,pol_Z97),some (F_Z39,pol_Z39),some (F_Z18,pol_Z18),some (F_Z23,pol_Z23),some (F_Z25,pol_Z25),some (F_Z129,pol_Z129),some (F_Z108,pol_Z108),some (F_Z12,pol_Z12),some (F_Z22,pol_Z22),some (F_Z73,pol_Z73),some (F_Z30,pol_Z30),some (F_Z10,pol_Z10),some (F_Z42,pol_Z42),none,none,some (F_Z27,pol_Z27),some (F_Z79,pol_Z79),some (F_Z52,pol_Z52),none,some (F_Z69,pol_Z69),none,none,some (F_Z31,pol_Z31),none,some (F_Z113,pol_Z113),some (F_Z119,pol_Z119),some (F_Z105,pol_Z105),none,some (F_Z115,pol_Z115),some (F_Z118,pol_Z118),none,some (F_Z85,pol_Z85),some (F_Z67,pol_Z67),none,none,none,some (F_Z63,pol_Z63),none,none,none,none,none,none,none,some (F_Z100,pol_Z100),none,none,none,none,none,none,none,some (F_Z99,pol_Z99),none,none,none,none,none,none,some (F_Z46,pol_Z46),none,none,none,none,none,none,none,none,none,none,some (F_Z59,pol_Z59),none,some (F_Z137,pol_Z137),some (F_Z24,pol_Z24),some (F_Z132,pol_Z132),some (F_Z133,pol_Z133),some (F_Z110,pol_Z110),some (F_Z95,pol_Z95),some (F_Z109,pol_Z109),some (F_Z43,pol_Z43),some (F_Z13,pol_Z13),some (F_Z44,pol_Z44),some (F_Z2,pol_Z2),some (F_Z0,pol_Z0),some (F_Z71,pol_Z71),some (F_Z81,pol_Z81),none,none,some (F_Z28,pol_Z28),some (F_Z38,pol_Z38),some (F_Z124,pol_Z124),some (F_Z98,pol_Z98),none,none,none,none,none,none,some (F_Z107,pol_Z107),none,none,some (F_Z138,pol_Z138),some (F_Z49,pol_Z49),some (F_Z111,pol_Z111),some (F_Z106,pol_Z106),some (F_Z3,pol_Z3),some (F_Z1,pol_Z1),none,none,none,none,none,none,none,none,none,none,none,some (F_Z51,pol_Z51),none,none,none,none,none,none,none,none,none,some (F_Z50,pol_Z50),some (F_Z4,pol_Z4),none,none,none,none,none,none,none,none,none,none,none,none,none,none,none,none,none,none,none,none,none,none,none,none,none,none]
def primL:List (Option (Run→List Dv→Option Dv)):=[none,none,none,none,none,none,none,none,none,none,none,none,none,none,none,none,none,none,none,none,none,none,none,none,none,none,none,none,none,none,none,none,none,none,none,none,none,none,none,none,none,none,none,none,none,none,none,none,none,none,none,none,none,none,none,none,none,none,none,none,none,none,none,none,none,none,none,none,none,none,none,none,none,none,none,none,none,none,none,none,none,none,none,none,none,none,none,none,none,none,none,none,none,none,none,none,none,none,none,none,none,none,none,none,none,none,none,none,none,none,none,none,none,none,none,none,none,none,none,none,none,none,none,none,none,none,none,none,none,none,none,none,none,none,none,none,none,none,none,none,none,none,none,none,none,none,none,none,none,none,none,none,none,none,none,none,none,none,none,none,none,none,none,none,none,none,none,none,none,none,none,none,none,none,none,none,none,none,none,none,none,none,none,none,none,none,none,none,none,none,none,none,none,none,none,none,none,none,none,none,none,none,none,none,none,none,none,none,none,none,none,none,none,none,none,none,none,none,none,none,none,none,none,none,none,none,none,none,none,none,none,none,none,none,none,some qh0,some qip,none,none,none,none,none,none,none,none,none,none,none,none,none,none,none,none,none,none,none,none,none,none,none,none,none,none,none,none,none,none,none,none,none,none,none,none,none,none,none,none,none,none,none,none,none,none,none,none,some (qmk yI),none,none,none,none,none,none,none,none,none,none,none,none,none,none,none,none,none,none,none,none,none,none,none,none,none,none,none,none,none,none,none,none,none,none,none,none,none,none,none,none,none,none,none,none,none,none,none,none,none,none,none,none,none,none,none,none,none,none,none,none,none,none,none,none,none,none,none,none,none,none,none,none,none,none,none,none,none,none,none,none,none,none,none,none,none,none,none,none,none,none,none,none]
def E:Env:={ P:=Tryz.prog,fn:=fun f=>fnL.getD f none,prim:=fun f=>primL.getD f none,sig:=fun f=>sigL.getD f none }
theorem sig_laws_FnRanks_eq:E.sig n_Z64=some sg_Z64:=rfl
abbrev RT(f:Nat)(s:Sig)(q:Pol)(F:Func):Prop:=∀ n args,run E (n+1) f args=qp8 E (mkR (run E n)) s q F n args
theorem run_Z64:RT n_Z64 sg_Z64 pol_Z64 F_Z64:=fun _ _=>rfl
theorem run_Z65:RT n_Z65 sg_Z65 pol_Z65 F_Z65:=fun _ _=>rfl
theorem run_Z91:RT n_Z91 sg_Z91 pol_Z91 F_Z91:=fun _ _=>rfl
theorem run_Z6:RT n_Z6 sg_Z6 pol_Z6 F_Z6:=fun _ _=>rfl
theorem run_Z92:RT n_Z92 sg_Z92 pol_Z92 F_Z92:=fun _ _=>rfl
theorem run_Z5:RT n_Z5 sg_Z5 pol_Z5 F_Z5:=fun _ _=>rfl
theorem run_Z66:RT n_Z66 sg_Z66 pol_Z66 F_Z66:=fun _ _=>rfl
theorem run_Z94:RT n_Z94 sg_Z94 pol_Z94 F_Z94:=fun _ _=>rfl
theorem run_Z116:RT n_Z116 sg_Z116 pol_Z116 F_Z116:=fun _ _=>rfl
theorem run_Z104:RT n_Z104 sg_Z104 pol_Z104 F_Z104:=fun _ _=>rfl
theorem run_Z16:RT n_Z16 sg_Z16 pol_Z16 F_Z16:=fun _ _=>rfl
theorem run_Z14:RT n_Z14 sg_Z14 pol_Z14 F_Z14:=fun _ _=>rfl
theorem run_Z134:RT n_Z134 sg_Z134 pol_Z134 F_Z134:=fun _ _=>rfl
theorem run_Z135:RT n_Z135 sg_Z135 pol_Z135 F_Z135:=fun _ _=>rfl
theorem run_Z130:RT n_Z130 sg_Z130 pol_Z130 F_Z130:=fun _ _=>rfl
theorem run_Z20:RT n_Z20 sg_Z20 pol_Z20 F_Z20:=fun _ _=>rfl
theorem run_Z19:RT n_Z19 sg_Z19 pol_Z19 F_Z19:=fun _ _=>rfl
theorem run_Z34:RT n_Z34 sg_Z34 pol_Z34 F_Z34:=fun _ _=>rfl
theorem run_Z55:RT n_Z55 sg_Z55 pol_Z55 F_Z55:=fun _ _=>rfl
theorem run_Z36:RT n_Z36 sg_Z36 pol_Z36 F_Z36:=fun _ _=>rfl
theorem run_Z17:RT n_Z17 sg_Z17 pol_Z17 F_Z17:=fun _ _=>rfl
theorem run_Z126:RT n_Z126 sg_Z126 pol_Z126 F_Z126:=fun _ _=>rfl
theorem run_Z127:RT n_Z127 sg_Z127 pol_Z127 F_Z127:=fun _ _=>rfl
theorem run_Z9:RT n_Z9 sg_Z9 pol_Z9 F_Z9:=fun _ _=>rfl
theorem run_Z41:RT n_Z41 sg_Z41 pol_Z41 F_Z41:=fun _ _=>rfl
theorem run_Z35:RT n_Z35 sg_Z35 pol_Z35 F_Z35:=fun _ _=>rfl
theorem run_Z47:RT n_Z47 sg_Z47 pol_Z47 F_Z47:=fun _ _=>rfl
theorem run_Z11:RT n_Z11 sg_Z11 pol_Z11 F_Z11:=fun _ _=>rfl
theorem run_Z61:RT n_Z61 sg_Z61 pol_Z61 F_Z61:=fun _ _=>rfl
theorem run_Z123:RT n_Z123 sg_Z123 pol_Z123 F_Z123:=fun _ _=>rfl
theorem run_Z93:RT n_Z93 sg_Z93 pol_Z93 F_Z93:=fun _ _=>rfl
theorem run_Z117:RT n_Z117 sg_Z117 pol_Z117 F_Z117:=fun _ _=>rfl
theorem run_Z122:RT n_Z122 sg_Z122 pol_Z122 F_Z122:=fun _ _=>rfl
theorem run_Z54:RT n_Z54 sg_Z54 pol_Z54 F_Z54:=fun _ _=>rfl
theorem run_Z76:RT n_Z76 sg_Z76 pol_Z76 F_Z76:=fun _ _=>rfl
theorem run_Z37:RT n_Z37 sg_Z37 pol_Z37 F_Z37:=fun _ _=>rfl
theorem run_Z89:RT n_Z89 sg_Z89 pol_Z89 F_Z89:=fun _ _=>rfl
theorem run_Z62:RT n_Z62 sg_Z62 pol_Z62 F_Z62:=fun _ _=>rfl
theorem run_Z53:RT n_Z53 sg_Z53 pol_Z53 F_Z53:=fun _ _=>rfl
theorem run_Z48:RT n_Z48 sg_Z48 pol_Z48 F_Z48:=fun _ _=>rfl
theorem run_Z125:RT n_Z125 sg_Z125 pol_Z125 F_Z125:=fun _ _=>rfl
theorem run_Z121:RT n_Z121 sg_Z121 pol_Z121 F_Z121:=fun _ _=>rfl
theorem run_Z128:RT n_Z128 sg_Z128 pol_Z128 F_Z128:=fun _ _=>rfl
theorem run_Z45:RT n_Z45 sg_Z45 pol_Z45 F_Z45:=fun _ _=>rfl
theorem run_Z72:RT n_Z72 sg_Z72 pol_Z72 F_Z72:=fun _ _=>rfl
theorem run_Z101:RT n_Z101 sg_Z101 pol_Z101 F_Z101:=fun _ _=>rfl
theorem run_Z56:RT n_Z56 sg_Z56 pol_Z56 F_Z56:=fun _ _=>rfl
theorem run_Z60:RT n_Z60 sg_Z60 pol_Z60 F_Z60:=fun _ _=>rfl
theorem run_Z40:RT n_Z40 sg_Z40 pol_Z40 F_Z40:=fun _ _=>rfl
theorem run_Z96:RT n_Z96 sg_Z96 pol_Z96 F_Z96:=fun _ _=>rfl
theorem run_Z102:RT n_Z102 sg_Z102 pol_Z102 F_Z102:=fun _ _=>rfl
theorem run_Z58:RT n_Z58 sg_Z58 pol_Z58 F_Z58:=fun _ _=>rfl
theorem run_Z57:RT n_Z57 sg_Z57 pol_Z57 F_Z57:=fun _ _=>rfl
theorem run_Z21:RT n_Z21 sg_Z21 pol_Z21 F_Z21:=fun _ _=>rfl
theorem run_Z112:RT n_Z112 sg_Z112 pol_Z112 F_Z112:=fun _ _=>rfl
theorem run_Z120:RT n_Z120 sg_Z120 pol_Z120 F_Z120:=fun _ _=>rfl
theorem run_Z131:RT n_Z131 sg_Z131 pol_Z131 F_Z131:=fun _ _=>rfl
theorem run_Z26:RT n_Z26 sg_Z26 pol_Z26 F_Z26:=fun _ _=>rfl
theorem run_Z8:RT n_Z8 sg_Z8 pol_Z8 F_Z8:=fun _ _=>rfl
theorem run_Z29:RT n_Z29 sg_Z29 pol_Z29 F_Z29:=fun _ _=>rfl
theorem run_Z7:RT n_Z7 sg_Z7 pol_Z7 F_Z7:=fun _ _=>rfl
theorem run_Z15:RT n_Z15 sg_Z15 pol_Z15 F_Z15:=fun _ _=>rfl
theorem run_Z103:RT n_Z103 sg_Z103 pol_Z103 F_Z103:=fun _ _=>rfl
theorem run_Z114:RT n_Z114 sg_Z114 pol_Z114 F_Z114:=fun _ _=>rfl
theorem run_Z139:RT n_Z139 sg_Z139 pol_Z139 F_Z139:=fun _ _=>rfl
theorem run_Z136:RT n_Z136 sg_Z136 pol_Z136 F_Z136:=fun _ _=>rfl
theorem run_Z97:RT n_Z97 sg_Z97 pol_Z97 F_Z97:=fun _ _=>rfl
theorem run_Z39:RT n_Z39 sg_Z39 pol_Z39 F_Z39:=fun _ _=>rfl
theorem run_Z18:RT n_Z18 sg_Z18 pol_Z18 F_Z18:=fun _ _=>rfl
theorem run_Z23:RT n_Z23 sg_Z23 pol_Z23 F_Z23:=fun _ _=>rfl
theorem run_Z25:RT n_Z25 sg_Z25 pol_Z25 F_Z25:=fun _ _=>rfl
theorem run_Z129:RT n_Z129 sg_Z129 pol_Z129 F_Z129:=fun _ _=>rfl
theorem run_Z108:RT n_Z108 sg_Z108 pol_Z108 F_Z108:=fun _ _=>rfl
theorem run_Z12:RT n_Z12 sg_Z12 pol_Z12 F_Z12:=fun _ _=>rfl
theorem run_Z22:RT n_Z22 sg_Z22 pol_Z22 F_Z22:=fun _ _=>rfl
theorem run_Z73:RT n_Z73 sg_Z73 pol_Z73 F_Z73:=fun _ _=>rfl
theorem run_Z30:RT n_Z30 sg_Z30 pol_Z30 F_Z30:=fun _ _=>rfl
theorem run_Z10:RT n_Z10 sg_Z10 pol_Z10 F_Z10:=fun _ _=>rfl
theorem run_Z42:RT n_Z42 sg_Z42 pol_Z42 F_Z42:=fun _ _=>rfl
theorem sig_slices_Sort_Sint64_int64_eq:E.sig n_Z90=some sg_Z90:=rfl
theorem sig_slices_Compact_Sint64_int64_eq:E.sig n_Z70=some sg_Z70:=rfl
theorem run_Z27:RT n_Z27 sg_Z27 pol_Z27 F_Z27:=fun _ _=>rfl
theorem run_Z79:RT n_Z79 sg_Z79 pol_Z79 F_Z79:=fun _ _=>rfl
theorem run_Z52:RT n_Z52 sg_Z52 pol_Z52 F_Z52:=fun _ _=>rfl
theorem run_Z69:RT n_Z69 sg_Z69 pol_Z69 F_Z69:=fun _ _=>rfl
theorem run_Z31:RT n_Z31 sg_Z31 pol_Z31 F_Z31:=fun _ _=>rfl
theorem run_Z113:RT n_Z113 sg_Z113 pol_Z113 F_Z113:=fun _ _=>rfl
theorem run_Z119:RT n_Z119 sg_Z119 pol_Z119 F_Z119:=fun _ _=>rfl
theorem run_Z105:RT n_Z105 sg_Z105 pol_Z105 F_Z105:=fun _ _=>rfl
theorem run_Z115:RT n_Z115 sg_Z115 pol_Z115 F_Z115:=fun _ _=>rfl
theorem run_Z118:RT n_Z118 sg_Z118 pol_Z118 F_Z118:=fun _ _=>rfl
theorem run_Z85:RT n_Z85 sg_Z85 pol_Z85 F_Z85:=fun _ _=>rfl
theorem run_Z67:RT n_Z67 sg_Z67 pol_Z67 F_Z67:=fun _ _=>rfl
theorem run_Z63:RT n_Z63 sg_Z63 pol_Z63 F_Z63:=fun _ _=>rfl
theorem run_Z100:RT n_Z100 sg_Z100 pol_Z100 F_Z100:=fun _ _=>rfl
theorem run_Z99:RT n_Z99 sg_Z99 pol_Z99 F_Z99:=fun _ _=>rfl
theorem run_Z46:RT n_Z46 sg_Z46 pol_Z46 F_Z46:=fun _ _=>rfl
theorem sig_slices_Grow_Sint64_int64_eq:E.sig n_Z80=some sg_Z80:=rfl
theorem run_Z59:RT n_Z59 sg_Z59 pol_Z59 F_Z59:=fun _ _=>rfl
theorem run_Z137:RT n_Z137 sg_Z137 pol_Z137 F_Z137:=fun _ _=>rfl
theorem run_Z24:RT n_Z24 sg_Z24 pol_Z24 F_Z24:=fun _ _=>rfl
theorem run_Z132:RT n_Z132 sg_Z132 pol_Z132 F_Z132:=fun _ _=>rfl
theorem run_Z133:RT n_Z133 sg_Z133 pol_Z133 F_Z133:=fun _ _=>rfl
theorem run_Z110:RT n_Z110 sg_Z110 pol_Z110 F_Z110:=fun _ _=>rfl
theorem run_Z95:RT n_Z95 sg_Z95 pol_Z95 F_Z95:=fun _ _=>rfl
theorem run_Z109:RT n_Z109 sg_Z109 pol_Z109 F_Z109:=fun _ _=>rfl
theorem run_Z43:RT n_Z43 sg_Z43 pol_Z43 F_Z43:=fun _ _=>rfl
theorem run_Z13:RT n_Z13 sg_Z13 pol_Z13 F_Z13:=fun _ _=>rfl
theorem run_Z44:RT n_Z44 sg_Z44 pol_Z44 F_Z44:=fun _ _=>rfl
theorem run_Z2:RT n_Z2 sg_Z2 pol_Z2 F_Z2:=fun _ _=>rfl
theorem run_Z0:RT n_Z0 sg_Z0 pol_Z0 F_Z0:=fun _ _=>rfl
theorem run_Z71:RT n_Z71 sg_Z71 pol_Z71 F_Z71:=fun _ _=>rfl
theorem run_Z81:RT n_Z81 sg_Z81 pol_Z81 F_Z81:=fun _ _=>rfl
theorem run_Z28:RT n_Z28 sg_Z28 pol_Z28 F_Z28:=fun _ _=>rfl
theorem run_Z38:RT n_Z38 sg_Z38 pol_Z38 F_Z38:=fun _ _=>rfl
theorem run_Z124:RT n_Z124 sg_Z124 pol_Z124 F_Z124:=fun _ _=>rfl
theorem run_Z98:RT n_Z98 sg_Z98 pol_Z98 F_Z98:=fun _ _=>rfl
theorem run_Z107:RT n_Z107 sg_Z107 pol_Z107 F_Z107:=fun _ _=>rfl
theorem run_Z138:RT n_Z138 sg_Z138 pol_Z138 F_Z138:=fun _ _=>rfl
theorem run_Z49:RT n_Z49 sg_Z49 pol_Z49 F_Z49:=fun _ _=>rfl
theorem run_Z111:RT n_Z111 sg_Z111 pol_Z111 F_Z111:=fun _ _=>rfl
theorem run_Z106:RT n_Z106 sg_Z106 pol_Z106 F_Z106:=fun _ _=>rfl
theorem run_Z3:RT n_Z3 sg_Z3 pol_Z3 F_Z3:=fun _ _=>rfl
theorem run_Z1:RT n_Z1 sg_Z1 pol_Z1 F_Z1:=fun _ _=>rfl
theorem run_Z51:RT n_Z51 sg_Z51 pol_Z51 F_Z51:=fun _ _=>rfl
theorem run_Z50:RT n_Z50 sg_Z50 pol_Z50 F_Z50:=fun _ _=>rfl
theorem run_Z4:RT n_Z4 sg_Z4 pol_Z4 F_Z4:=fun _ _=>rfl
abbrev eC(R:Run)(q:Pol)(N:Nat)(l:List Nat)(F:Func):=qbR E R q N (sub l (bodyOf F))
abbrev kB(R:Run)(q:Pol)(k:Nat)(K:Kt):=qqD (qf1 R q.blkM k) k K
abbrev kS(R:Run)(q:Pol)(k N:Nat)(l:List Nat)(F:Func)(K:Kt):=qqz (qf1 R q.seqM k) (qbR E R q N (sub l (bodyOf F))) K
abbrev kL(R:Run)(q:Pol)(k N:Nat)(l:List Nat)(F:Func)(n:Nat)(K:Kt):=qqB (qbR E R q N (sub l (bodyOf F))) (qf1 R q.loopM k) n K
abbrev lC(R:Run)(q:Pol)(k N:Nat)(l:List Nat)(F:Func)(n:Nat)(s:Ve.St)(K:Kt):=qmX (qbR E R q N (sub l (bodyOf F))) (qf1 R q.loopM k) n s K
end
end VeT

open Go Go.Proofs Ve
set_option maxRecDepth 100000
namespace VeT
noncomputable section
abbrev q0_0(R:Run)(N:Nat):=kS R pol_Z98 11 N [1,1,1,1] F_Z98
abbrev q0_1(R:Run)(N:Nat):=kS R pol_Z134 20 N [1,1,1,1,1,1,1,1,1] F_Z134
abbrev q0_2(R:Run)(N:Nat):=kS R pol_Z81 7 N [1,1] F_Z81
abbrev q0_3(R:Run)(N:Nat):=lC R pol_Z81 2 N [1,0,1,0,0] F_Z81
theorem Z65.ev(R:Run)(N:Nat)(a0:List Int):qp8 E R sg_Z65 pol_Z65 F_Z65 N [⟨(.sl (.int .u8)),a0⟩]=some ⟨o_Z65,((decide ((List.length a0:Int)>(1048576:Int))),())⟩:=by kernel_rfl
theorem Z94.ev(R:Run)(N:Nat)(a0:List Int):qp8 E R sg_Z94 pol_Z94 F_Z94 N [⟨(.sl (.int .u8)),a0⟩]=some ⟨o_Z94,((a0,(0:Int),(0:Int),()),())⟩:=by kernel_rfl
def Z102.j0(R:Run)(N:Nat)(a:Int)(b:List Int)(e f:Int):Option Dv:=R.w (some ⟨(.c (.box 62 0)::(V.dead::(V.dead::(.c (.d yI a)::(zd 58 []))))),(zo 62 (some (.box [.d (.sl (.int .u8)) b,.d yI e,.d (.int .u64) f] false true)::[]))⟩) fun st=>eC R pol_Z102 N [1,1,1] F_Z102 st (qqA E sg_Z102 F_Z102)
theorem Z102.j0_eq(R:Run)(hw:R.ok)(N:Nat)(a:Int)(b:List Int)(c d:Int):Z102.j0 R N a b c d=(bif (decide ((w64 (c+1))≤(List.length b:Int))) then some ⟨o_Z102,(a,(b,(w64 (c+1)),(IntKind.wrap .u64 ((IntKind.wrap .u64 ((IntKind.wrap .u64 (d*(6364136223846793005:Int)))+(IntKind.wrap .u64 (a))))+(1442695040888963407:Int))),()),())⟩ else((chk (decide (0≤(40:Int)))).bind fun _=>some ⟨o_Z102,((w64 ((IntKind.wrap .u64 (BitVec.toNat (BitVec.ofInt (IntKind.bits .u64) (Int.fdiv (IntKind.wrap .u64 ((IntKind.wrap .u64 ((IntKind.wrap .u64 (d*(6364136223846793005:Int)))+(IntKind.wrap .u64 (a))))+(1442695040888963407:Int))) (2 ^ (min (Int.toNat (40:Int)) (IntKind.bits .u64)))) &&& BitVec.ofInt (IntKind.bits .u64) (255:Int)))))),(b,(w64 (c+1)),(IntKind.wrap .u64 ((IntKind.wrap .u64 ((IntKind.wrap .u64 (d*(6364136223846793005:Int)))+(IntKind.wrap .u64 (a))))+(1442695040888963407:Int))),()),())⟩)):=(hw _ _).trans (by kernel_rfl)
theorem Z102.ev(R:Run)(N:Nat)(a0:((List Int)×Int×Int×Unit)):qp8 E R sg_Z102 pol_Z102 F_Z102 N [⟨(.ptr yR),a0⟩]=(bif (decide (a0.2.1<(List.length a0.1:Int))) then((idx? a0.1 a0.2.1).bind fun y1=>(Z102.j0 R N (w64 ((y1,()).1)) a0.1 a0.2.1 a0.2.2.1)) else(Z102.j0 R N (0:Int) a0.1 a0.2.1 a0.2.2.1)):=by kernel_rfl
theorem Z104.ev(R:Run)(N:Nat)(a0:((List Int)×Int×Int×Unit))(a1:Int):qp8 E R sg_Z104 pol_Z104 F_Z104 N [⟨(.ptr yR),a0⟩,⟨yI,a1⟩]=(bif (decide (a1≤(1:Int))) then some ⟨o_Z104,((0:Int),(a0.1,a0.2.1,a0.2.2.1,()),())⟩ else((qjS R n_Z102 o_Z102 [⟨(.ptr yR),(a0.1,a0.2.1,a0.2.2.1,())⟩]).bind fun r1=>(bif (decide (a1>(200:Int))) then((qjS R n_Z102 o_Z102 [⟨(.ptr yR),(r1.2.1.1,r1.2.1.2.1,r1.2.1.2.2.1,())⟩]).bind fun r2=>((chk (a1 != 0)).bind fun _=>some ⟨o_Z104,((Int.tmod (w64 ((w64 (r1.1*(256:Int)))+r2.1)) a1),(r2.2.1.1,r2.2.1.2.1,r2.2.1.2.2.1,()),())⟩)) else((chk (a1 != 0)).bind fun _=>some ⟨o_Z104,((Int.tmod r1.1 a1),(r1.2.1.1,r1.2.1.2.1,r1.2.1.2.2.1,()),())⟩)))):=by kernel_rfl
def Z100.l0(R:Run)(N n:Nat)(a b:List Int)(e:Int):Option Dv:=R.w (some ⟨(.c (.d yL a)::(.c (.d yL b)::(zd 3 (.c (.d yI e)::(zd 20 []))))),(zo 28 [])⟩) fun st=>lC R pol_Z100 4 N [1,1,0,1,0,0] F_Z100 n st (kB R pol_Z100 0 (kS R pol_Z100 8 N [1,1,1] F_Z100 (qqA E sg_Z100 F_Z100)))
theorem Z100.l0_succ(R:Run)(hw:R.ok)(N n:Nat)(a b:List Int)(c:Int):Z100.l0 R N (n+1) a b c=(bif (decide (c<(List.length a:Int))) then((idx? a c).bind fun y4=>((idx? b c).bind fun y5=>(bif ((y4,()).1 != (y5,()).1) then some ⟨o_Z100,(false,())⟩ else(Z100.l0 R N n a b (w64 (c+1)))))) else some ⟨o_Z100,(true,())⟩):=(hw _ _).trans (by kernel_rfl)
theorem Z100.ev(R:Run)(N:Nat)(a0 a1:List Int):qp8 E R sg_Z100 pol_Z100 F_Z100 N [⟨yL,a0⟩,⟨yL,a1⟩]=(bif ((List.length a0:Int) != (List.length a1:Int)) then some ⟨o_Z100,(false,())⟩ else(Z100.l0 R N N a0 a1 (0:Int))):=by kernel_rfl
def Z121.l0(R:Run)(N n:Nat)(a:(vK×Unit))(b:List Int)(e:Int):Option Dv:=R.w (some ⟨(.c (.ip yC a 0)::(.c (.d yL b)::(zd 3 (.c (.d yI e)::(zd 19 []))))),(zo 27 [])⟩) fun st=>lC R pol_Z121 2 N [1,0,1,0,0] F_Z121 n st (kB R pol_Z121 0 (kS R pol_Z121 6 N [1,1] F_Z121 (qqA E sg_Z121 F_Z121)))
theorem Z121.l0_succ(R:Run)(hw:R.ok)(N n:Nat)(a:(vK×Unit))(b:List Int)(c:Int):Z121.l0 R N (n+1) a b c=(bif (decide (c<(List.length a.1:Int))) then((idx? a.1 c).bind fun y4=>((qjS R n_Z100 o_Z100 [⟨yL,(y4,()).1⟩,⟨yL,b⟩]).bind fun r5=>(bif r5.1 then some ⟨o_Z121,(c,())⟩ else(Z121.l0 R N n a b (w64 (c+1)))))) else some ⟨o_Z121,((-1:Int),())⟩):=(hw _ _).trans (by kernel_rfl)
theorem Z121.ev(R:Run)(N:Nat)(a0:(vK×Unit))(a1:List Int):qp8 E R sg_Z121 pol_Z121 F_Z121 N [⟨(.ptr yC),a0⟩,⟨yL,a1⟩]=(Z121.l0 R N N a0 a1 (0:Int)):=by kernel_rfl
theorem Z97.ev(R:Run)(N:Nat)(a0:List Int):qp8 E R sg_Z97 pol_Z97 F_Z97 N [⟨yL,a0⟩]=((chk (decide ((List.length ([]:List Int)+List.length a0)*8≤70368744177664))).bind fun _=>some ⟨o_Z97,((([]:List Int)++a0),())⟩):=by kernel_rfl
theorem Z119.ev(R:Run)(N:Nat)(a0:List Int)(a1:Int):qp8 E R sg_Z119 pol_Z119 F_Z119 N [⟨yL,a0⟩,⟨yI,a1⟩]=((chk (decide (0≤a1)&&decide (a1≤(List.length a0:Int)))).bind fun _=>((qjS R n_Z97 o_Z97 [⟨yL,(List.take (Int.toNat a1) a0)⟩]).bind fun r1=>((chk (decide (0≤(w64 (a1+1)))&&decide ((w64 (a1+1))≤(List.length a0:Int)))).bind fun _=>((chk (decide ((List.length r1.1+List.length (List.drop (Int.toNat (w64 (a1+1))) a0))*8≤70368744177664))).bind fun _=>some ⟨o_Z119,((r1.1++(List.drop (Int.toNat (w64 (a1+1))) a0)),())⟩)))):=by kernel_rfl
def Z113.l0(R:Run)(N n:Nat)(a b:List Int)(e:Int):Option Dv:=R.w (some ⟨(.c (.d yL a)::(.c (.d yL b)::(zd 3 (.c (.d yI e)::(zd 34 []))))),(zo 42 [])⟩) fun st=>lC R pol_Z113 4 N [1,1,0,1,0,0] F_Z113 n st (kB R pol_Z113 0 (kS R pol_Z113 8 N [1,1,1] F_Z113 (qqA E sg_Z113 F_Z113)))
theorem Z113.l0_succ(R:Run)(hw:R.ok)(N n:Nat)(a b:List Int)(c:Int):Z113.l0 R N (n+1) a b c=(bif (decide (c<(List.length a:Int))) then((idx? a c).bind fun y4=>((idx? b c).bind fun y5=>(bif ((y4,()).1 != (y5,()).1) then((idx? a c).bind fun y6=>((idx? b c).bind fun y7=>some ⟨o_Z113,((decide ((y6,()).1<(y7,()).1)),())⟩)) else(Z113.l0 R N n a b (w64 (c+1)))))) else some ⟨o_Z113,(false,())⟩):=(hw _ _).trans (by kernel_rfl)
theorem Z113.ev(R:Run)(N:Nat)(a0 a1:List Int):qp8 E R sg_Z113 pol_Z113 F_Z113 N [⟨yL,a0⟩,⟨yL,a1⟩]=(bif ((List.length a0:Int) != (List.length a1:Int)) then some ⟨o_Z113,((decide ((List.length a0:Int)<(List.length a1:Int))),())⟩ else(Z113.l0 R N N a0 a1 (0:Int))):=by kernel_rfl
def Z124.j3(R:Run)(N a:Nat)(b:List Int)(e:Int)(f:Bool)(g:vK):Option Dv:=R.w (some ⟨(.c (.box 71 0)::(.c (.d yL b)::(zd 3 (.c (.d yI e)::(zd 38 (.c (.d .bool f)::(zd 26 []))))))),(zo 71 (some (.box [.arr 73] false true)::(none::(some (.arr yL g false false false)::(none::(none::[]))))))⟩) fun st=>eC R pol_Z124 N [1,1,1,0,0,0,0,1] F_Z124 st (kS R pol_Z124 7 N [1,1,1,0,0,0,1] F_Z124 (kL R pol_Z124 6 N [1,1,1,0,0,0] F_Z124 a (kB R pol_Z124 2 (kS R pol_Z124 8 N [1,1,1,1] F_Z124 (qqA E sg_Z124 F_Z124)))))
def Z124.l2(R:Run)(N n:Nat)(a:List Int)(b:Int)(e:vK):Option Dv:=R.w (some ⟨(.c (.box 71 0)::(.c (.d yL a)::(zd 3 (.c (.d yI b)::(zd 65 []))))),(zo 71 (some (.box [.arr 73] false true)::(none::(some (.arr yL e false false false)::(none::(none::[]))))))⟩) fun st=>lC R pol_Z124 6 N [1,1,1,0,0,0] F_Z124 n st (kB R pol_Z124 2 (kS R pol_Z124 8 N [1,1,1,1] F_Z124 (qqA E sg_Z124 F_Z124)))
def Z124.j1(R:Run)(N a:Nat)(b:List Int)(e:Int)(f:Bool)(g:vK):Option Dv:=R.w (some ⟨(.c (.box 71 0)::(.c (.d yL b)::(V.dead::(V.dead::(.c (.d yI e)::(zd 14 (.c (.d .bool f)::(zd 51 [])))))))),(zo 71 (some (.box [.arr 73] false true)::(none::(some (.arr yL g false false false)::(none::(none::[]))))))⟩) fun st=>eC R pol_Z124 N [1,0,1,0,0,0,1] F_Z124 st (kS R pol_Z124 4 N [1,0,1,0,0,1] F_Z124 (kL R pol_Z124 2 N [1,0,1,0,0] F_Z124 a (kB R pol_Z124 0 (kS R pol_Z124 5 N [1,1] F_Z124 (qqA E sg_Z124 F_Z124)))))
def Z124.l0(R:Run)(N n:Nat)(a:List Int)(b:Int)(e:vK):Option Dv:=R.w (some ⟨(.c (.box 71 0)::(.c (.d yL a)::(V.dead::(V.dead::(.c (.d yI b)::(zd 66 [])))))),(zo 71 (some (.box [.arr 73] false true)::(none::(some (.arr yL e false false false)::(none::(none::[]))))))⟩) fun st=>lC R pol_Z124 2 N [1,0,1,0,0] F_Z124 n st (kB R pol_Z124 0 (kS R pol_Z124 5 N [1,1] F_Z124 (qqA E sg_Z124 F_Z124)))
theorem Z124.j3_eq(R:Run)(hw:R.ok)(N a:Nat)(b:List Int)(c:Int)(d:Bool)(e:vK):Z124.j3 R N a b c d e=(bif d then(Z124.l2 R N a b (w64 (c+1)) e) else((chk (decide (0≤c)&&decide (c≤(List.length e:Int)))).bind fun _=>((chk (decide ((List.length ([]:List (List Int))+List.length (List.drop 0 (List.take (Int.toNat c) e)))*24≤70368744177664))).bind fun _=>((qjS R n_Z97 o_Z97 [⟨yL,b⟩]).bind fun r26=>((chk (decide ((List.length (([]:List (List Int))++(List.drop 0 (List.take (Int.toNat c) e)))+List.length [r26.1])*24≤70368744177664))).bind fun _=>((chk (decide (0≤c)&&decide (c≤(List.length e:Int)))).bind fun _=>((chk (decide ((List.length ((([]:List (List Int))++(List.drop 0 (List.take (Int.toNat c) e)))++[r26.1])+List.length (List.drop (Int.toNat c) (List.take (List.length e) e)))*24≤70368744177664))).bind fun _=>some ⟨o_Z124,(((((([]:List (List Int))++(List.drop 0 (List.take (Int.toNat c) e)))++[r26.1])++(List.drop (Int.toNat c) (List.take (List.length e) e))),()),())⟩))))))):=(hw _ _).trans (by kernel_rfl)
theorem Z124.l2_succ(R:Run)(hw:R.ok)(N n:Nat)(a:List Int)(b:Int)(c:vK):Z124.l2 R N (n+1) a b c=(bif (decide (b<(List.length c:Int))) then((chk (decide (0≤b)&&decide (b<(List.length c:Int)))).bind fun _=>(Option.bind (c)[(Int.toNat b)]? fun y17=>((qjS R n_Z113 o_Z113 [⟨yL,y17⟩,⟨yL,a⟩]).bind fun r18=>(Z124.j3 R N n a b r18.1 c)))) else(Z124.j3 R N n a b false c)):=(hw _ _).trans (by kernel_rfl)
theorem Z124.j1_eq(R:Run)(hw:R.ok)(N a:Nat)(b:List Int)(c:Int)(d:Bool)(e:vK):Z124.j1 R N a b c d e=(bif d then((qjS R n_Z119 o_Z119 [⟨yL,b⟩,⟨yI,c⟩]).bind fun r9=>((qjS R n_Z124 o_Z124 [⟨(.ptr yC),(e,())⟩,⟨yL,r9.1⟩]).bind fun r10=>(Z124.l0 R N a b (w64 (c+1)) r10.1.1))) else(Z124.l2 R N N b (0:Int) e)):=(hw _ _).trans (by kernel_rfl)
theorem Z124.l0_succ(R:Run)(hw:R.ok)(N n:Nat)(a:List Int)(b:Int)(c:vK):Z124.l0 R N (n+1) a b c=(bif (decide (b<(List.length a:Int))) then(Z124.j1 R N n a b (decide ((List.length a:Int)>(1:Int))) c) else(Z124.j1 R N n a b false c)):=(hw _ _).trans (by kernel_rfl)
theorem Z124.ev(R:Run)(N:Nat)(a0:(vK×Unit))(a1:List Int):qp8 E R sg_Z124 pol_Z124 F_Z124 N [⟨(.ptr yC),a0⟩,⟨yL,a1⟩]=((qjS R n_Z121 o_Z121 [⟨(.ptr yC),(a0.1,())⟩,⟨yL,a1⟩]).bind fun r1=>(bif (decide (r1.1≥(0:Int))) then some ⟨o_Z124,((a0.1,()),())⟩ else(Z124.l0 R N N a1 (0:Int) a0.1))):=by kernel_rfl
def Z115.l0(R:Run)(N n:Nat)(a:vK)(b:Int)(e:vK):Option Dv:=R.w (some ⟨(.c (.d yK a)::(V.dead::(.c (.box 2 0)::(.c (.box 3 0)::(.c (.d yI b)::(zd 14 [])))))),(none::(none::(some (.box [.nils yL] false false)::(some (.box [.arr 5] false false)::(none::(some (.arr yL e false false false)::(zo 14 [])))))))⟩) fun st=>lC R pol_Z115 3 N [1,1,0,1,0,0] F_Z115 n st (kB R pol_Z115 0 (kS R pol_Z115 6 N [1,1,1] F_Z115 (qqA E sg_Z115 F_Z115)))
theorem Z115.l0_succ(R:Run)(hw:R.ok)(N n:Nat)(a:vK)(b:Int)(c:vK):Z115.l0 R N (n+1) a b c=(bif (decide (b<(List.length a:Int))) then((idx? a b).bind fun y4=>((qjS R n_Z124 o_Z124 [⟨(.ptr yC),(c,())⟩,⟨yL,(y4,()).1⟩]).bind fun r5=>(Z115.l0 R N n a (w64 (b+1)) r5.1.1))) else some ⟨o_Z115,(c,())⟩):=(hw _ _).trans (by kernel_rfl)
theorem Z115.ev(R:Run)(N:Nat)(a0:vK):qp8 E R sg_Z115 pol_Z115 F_Z115 N [⟨yK,a0⟩]=(Z115.l0 R N N a0 (0:Int) ([]:List (List Int))):=by kernel_rfl
def Z98.j2(R:Run)(N a:Nat)(b:List Int)(e:Int)(f:Bool)(g:Int)(h:List Int):Option Dv:=R.w (some ⟨(.c (.d yL b)::(.c (.d yI e)::(zd 3 (.c (.arr 8)::(.c (.d .bool f)::(.c (.d yI g)::(zd 41 []))))))),(zo 8 (some (.arr yI h true false false)::(zo 42 [])))⟩) fun st=>eC R pol_Z98 N [1,1,1,0,1,0,0,1,0,0,1] F_Z98 st (kB R pol_Z98 1 (kS R pol_Z98 5 N [1,1,1,0,1,0,0,1,1] F_Z98 (kL R pol_Z98 4 N [1,1,1,0,1,0,0] F_Z98 a (kB R pol_Z98 0 (q0_0 R N (qqA E sg_Z98 F_Z98))))))
def Z98.j1(R:Run)(N a:Nat)(b:List Int)(e:Int)(f:Bool)(g:Int)(h:Bool)(i:List Int):Option Dv:=R.w (some ⟨(.c (.d yL b)::(.c (.d yI e)::(zd 3 (.c (.arr 8)::(.c (.d .bool f)::(.c (.d yI g)::(zd 16 (.c (.d .bool h)::(zd 24 []))))))))),(zo 8 (some (.arr yI i true false false)::(zo 42 [])))⟩) fun st=>eC R pol_Z98 N [1,1,1,0,1,0,0,1,0,0,0,1] F_Z98 st (kS R pol_Z98 10 N [1,1,1,0,1,0,0,1,0,0,1] F_Z98 (kB R pol_Z98 1 (kS R pol_Z98 5 N [1,1,1,0,1,0,0,1,1] F_Z98 (kL R pol_Z98 4 N [1,1,1,0,1,0,0] F_Z98 a (kB R pol_Z98 0 (q0_0 R N (qqA E sg_Z98 F_Z98)))))))
def Z98.l0(R:Run)(N n:Nat)(a:List Int)(b:Int)(e:Bool)(f:Int)(g:List Int):Option Dv:=R.w (some ⟨(.c (.d yL a)::(.c (.d yI b)::(zd 3 (.c (.arr 8)::(.c (.d .bool e)::(.c (.d yI f)::(zd 41 []))))))),(zo 8 (some (.arr yI g true false false)::(zo 42 [])))⟩) fun st=>lC R pol_Z98 4 N [1,1,1,0,1,0,0] F_Z98 n st (kB R pol_Z98 0 (q0_0 R N (qqA E sg_Z98 F_Z98)))
theorem Z98.j2_eq(R:Run)(hw:R.ok)(N a:Nat)(b:List Int)(c:Int)(d:Bool)(e:Int)(f:List Int):Z98.j2 R N a b c d e f=((idx? b e).bind fun y19=>((chk (decide ((List.length f+List.length [(y19,()).1])*8≤70368744177664))).bind fun _=>(Z98.l0 R N a b c d (w64 (e+1)) (f++[(y19,()).1])))):=(hw _ _).trans (by kernel_rfl)
theorem Z98.j1_eq(R:Run)(hw:R.ok)(N a:Nat)(b:List Int)(c:Int)(d:Bool)(e:Int)(f:Bool)(g:List Int):Z98.j1 R N a b c d e f g=(bif f then((idx? b e).bind fun y13=>(bif (decide ((y13,()).1>c)) then((chk (decide ((List.length g+List.length [c])*8≤70368744177664))).bind fun _=>(Z98.j2 R N a b c true e (g++[c]))) else(Z98.j2 R N a b c true e g))) else(Z98.j2 R N a b c d e g)):=(hw _ _).trans (by kernel_rfl)
theorem Z98.l0_succ(R:Run)(hw:R.ok)(N n:Nat)(a:List Int)(b:Int)(c:Bool)(d:Int)(e:List Int):Z98.l0 R N (n+1) a b c d e=(bif (decide (d<(List.length a:Int))) then(bif (!c) then((idx? a d).bind fun y6=>(Z98.j1 R N n a b c d (decide ((y6,()).1≥b)) e)) else(Z98.j1 R N n a b c d false e)) else(bif (!c) then((chk (decide ((List.length e+List.length [b])*8≤70368744177664))).bind fun _=>some ⟨o_Z98,((e++[b]),())⟩) else some ⟨o_Z98,(e,())⟩)):=(hw _ _).trans (by kernel_rfl)
theorem Z98.ev(R:Run)(N:Nat)(a0:List Int)(a1:Int):qp8 E R sg_Z98 pol_Z98 F_Z98 N [⟨yL,a0⟩,⟨yI,a1⟩]=(Z98.l0 R N N a0 a1 false (0:Int) ([]:List Int)):=by kernel_rfl
def Z118.l0(R:Run)(N n:Nat)(a:Int)(b:List Int)(e:Int)(f:List Int)(g h:Int):Option Dv:=R.w (some ⟨(.c (.box 24 0)::(.c (.d yI a)::(zd 5 (.c (.d yL b)::(.c (.d yI e)::(zd 15 [])))))),(zo 24 (some (.box [.d (.sl (.int .u8)) f,.d yI g,.d (.int .u64) h] false true)::(none::(none::[]))))⟩) fun st=>lC R pol_Z118 3 N [1,1,0,1,0,0] F_Z118 n st (kB R pol_Z118 0 (kS R pol_Z118 6 N [1,1,1] F_Z118 (qqA E sg_Z118 F_Z118)))
theorem Z118.l0_succ(R:Run)(hw:R.ok)(N n:Nat)(a:Int)(b:List Int)(c:Int)(d:List Int)(e f:Int):Z118.l0 R N (n+1) a b c d e f=(bif (decide (c>(0:Int))) then((qjS R n_Z104 o_Z104 [⟨(.ptr yR),(d,e,f,())⟩,⟨yI,a⟩]).bind fun r8=>((qjS R n_Z98 o_Z98 [⟨yL,b⟩,⟨yI,r8.1⟩]).bind fun r9=>(Z118.l0 R N n a r9.1 (w64 (c-1)) r8.2.1.1 r8.2.1.2.1 r8.2.1.2.2.1))) else some ⟨o_Z118,(b,(d,e,f,()),())⟩):=(hw _ _).trans (by kernel_rfl)
theorem Z118.ev(R:Run)(N:Nat)(a0:((List Int)×Int×Int×Unit))(a1 a2:Int):qp8 E R sg_Z118 pol_Z118 F_Z118 N [⟨(.ptr yR),a0⟩,⟨yI,a1⟩,⟨yI,a2⟩]=((qjS R n_Z104 o_Z104 [⟨(.ptr yR),(a0.1,a0.2.1,a0.2.2.1,())⟩,⟨yI,a2⟩]).bind fun r1=>(Z118.l0 R N N a1 ([]:List Int) (w64 ((1:Int)+r1.1)) r1.2.1.1 r1.2.1.2.1 r1.2.1.2.2.1)):=by kernel_rfl
theorem Z103.ev(R:Run)(N:Nat)(a0:((List Int)×Int×Int×Unit))(a1:Int):qp8 E R sg_Z103 pol_Z103 F_Z103 N [⟨(.ptr yR),a0⟩,⟨yI,a1⟩]=((qjS R n_Z104 o_Z104 [⟨(.ptr yR),(a0.1,a0.2.1,a0.2.2.1,())⟩,⟨yI,a1⟩]).bind fun r1=>some ⟨o_Z103,((r1.1==(0:Int)),(r1.2.1.1,r1.2.1.2.1,r1.2.1.2.2.1,()),())⟩):=by kernel_rfl
def Z117.j1(R:Run)(N:Nat)(a:vK)(b:List Int)(e f:Int):Option Dv:=R.w (some ⟨(V.dead::(V.dead::(.c (.box 2 0)::(.c (.arr 24)::(zd 44 []))))),(none::(none::(some (.box [.nils yL] false false)::(zo 21 (some (.arr yL a false false false)::(zo 23 (some (.box [.d (.sl (.int .u8)) b,.d yI e,.d (.int .u64) f] false true)::(zo 3 []))))))))⟩) fun st=>eC R pol_Z117 N [1,1,1,1,1,1] F_Z117 st (qqA E sg_Z117 F_Z117)
def Z117.l0(R:Run)(N n:Nat)(a b:Int)(e:vK)(f:List Int)(g h:Int):Option Dv:=R.w (some ⟨(.c (.box 48 0)::(V.dead::(.c (.box 2 0)::(.c (.arr 24)::(.c (.d yI a)::(.c (.d yI b)::(zd 42 []))))))),(none::(none::(some (.box [.nils yL] false false)::(zo 21 (some (.arr yL e false false false)::(zo 23 (some (.box [.d (.sl (.int .u8)) f,.d yI g,.d (.int .u64) h] false true)::(zo 3 []))))))))⟩) fun st=>lC R pol_Z117 9 N [1,1,1,1,0,1,0,0] F_Z117 n st (kB R pol_Z117 1 (kS R pol_Z117 12 N [1,1,1,1,1] F_Z117 (qqA E sg_Z117 F_Z117)))
theorem Z117.j1_eq(R:Run)(hw:R.ok)(N:Nat)(a:vK)(b:List Int)(c d:Int):Z117.j1 R N a b c d=((qjS R n_Z115 o_Z115 [⟨yK,a⟩]).bind fun r24=>some ⟨o_Z117,(r24.1,(b,c,d,()),())⟩):=(hw _ _).trans (by kernel_rfl)
theorem Z117.l0_succ(R:Run)(hw:R.ok)(N n:Nat)(a b:Int)(c:vK)(d:List Int)(e f:Int):Z117.l0 R N (n+1) a b c d e f=(bif (decide (b>(0:Int))) then((qjS R n_Z118 o_Z118 [⟨(.ptr yR),(d,e,f,())⟩,⟨yI,a⟩,⟨yI,(3:Int)⟩]).bind fun r12=>((chk (decide ((List.length c+List.length [r12.1])*24≤70368744177664))).bind fun _=>(Z117.l0 R N n a (w64 (b-1)) (c++[r12.1]) r12.2.1.1 r12.2.1.2.1 r12.2.1.2.2.1))) else((qjS R n_Z103 o_Z103 [⟨(.ptr yR),(d,e,f,())⟩,⟨yI,(6:Int)⟩]).bind fun r19=>(bif r19.1 then((chk (decide ((List.length c+List.length [[(0:Int),(1:Int),(2:Int),(3:Int)]])*24≤70368744177664))).bind fun _=>(Z117.j1 R N (c++[[(0:Int),(1:Int),(2:Int),(3:Int)]]) r19.2.1.1 r19.2.1.2.1 r19.2.1.2.2.1)) else(Z117.j1 R N c r19.2.1.1 r19.2.1.2.1 r19.2.1.2.2.1)))):=(hw _ _).trans (by kernel_rfl)
theorem Z117.ev(R:Run)(N:Nat)(a0:((List Int)×Int×Int×Unit)):qp8 E R sg_Z117 pol_Z117 F_Z117 N [⟨(.ptr yR),a0⟩]=((qjS R n_Z104 o_Z104 [⟨(.ptr yR),(a0.1,a0.2.1,a0.2.2.1,())⟩,⟨yI,(6:Int)⟩]).bind fun r1=>(bif (r1.1==(0:Int)) then((qjS R n_Z115 o_Z115 [⟨yK,[[(0:Int),(1:Int)],[(1:Int),(2:Int)],[(0:Int),(2:Int)],[(2:Int),(3:Int)]]⟩]).bind fun r2=>some ⟨o_Z117,(r2.1,(r1.2.1.1,r1.2.1.2.1,r1.2.1.2.2.1,()),())⟩) else(bif (r1.1==(1:Int)) then((qjS R n_Z115 o_Z115 [⟨yK,[[(0:Int),(1:Int),(2:Int)],[(0:Int),(1:Int),(3:Int)],[(0:Int),(2:Int),(3:Int)],[(1:Int),(2:Int),(3:Int)]]⟩]).bind fun r3=>some ⟨o_Z117,(r3.1,(r1.2.1.1,r1.2.1.2.1,r1.2.1.2.2.1,()),())⟩) else((qjS R n_Z104 o_Z104 [⟨(.ptr yR),(r1.2.1.1,r1.2.1.2.1,r1.2.1.2.2.1,())⟩,⟨yI,(4:Int)⟩]).bind fun r4=>((qjS R n_Z104 o_Z104 [⟨(.ptr yR),(r4.2.1.1,r4.2.1.2.1,r4.2.1.2.2.1,())⟩,⟨yI,(6:Int)⟩]).bind fun r5=>(Z117.l0 R N N (w64 ((3:Int)+r4.1)) r5.1 ([]:List (List Int)) r5.2.1.1 r5.2.1.2.1 r5.2.1.2.2.1)))))):=by kernel_rfl
theorem Z101.ev(R:Run)(N:Nat)(a0:((List Int)×Int×Int×Unit))(a1:List Int):qp8 E R sg_Z101 pol_Z101 F_Z101 N [⟨(.ptr yR),a0⟩,⟨yL,a1⟩]=((qjS R n_Z104 o_Z104 [⟨(.ptr yR),(a0.1,a0.2.1,a0.2.2.1,())⟩,⟨yI,(List.length a1:Int)⟩]).bind fun r1=>((idx? a1 r1.1).bind fun y2=>some ⟨o_Z101,((y2,()).1,(r1.2.1.1,r1.2.1.2.1,r1.2.1.2.2.1,()),())⟩)):=by kernel_rfl
def Z114.j0(R:Run)(N:Nat)(a:vK)(b:List Int)(e f:Int):Option Dv:=R.w (some ⟨(V.dead::(V.dead::(.c (.box 2 0)::(.c (.box 3 0)::(zd 53 []))))),(none::(none::(some (.box [.nils yL] false false)::(some (.box [.d yK a] false false)::(zo 53 (some (.box [.d (.sl (.int .u8)) b,.d yI e,.d (.int .u64) f] false true)::(none::[])))))))⟩) fun st=>eC R pol_Z114 N [1,1,1,1] F_Z114 st (qqA E sg_Z114 F_Z114)
theorem Z114.j0_eq(R:Run)(hw:R.ok)(N:Nat)(a:vK)(b:List Int)(c d:Int):Z114.j0 R N a b c d=some ⟨o_Z114,(a,(b,c,d,()),())⟩:=(hw _ _).trans (by kernel_rfl)
theorem Z114.ev(R:Run)(N:Nat)(a0:((List Int)×Int×Int×Unit)):qp8 E R sg_Z114 pol_Z114 F_Z114 N [⟨(.ptr yR),a0⟩]=((qjS R n_Z117 o_Z117 [⟨(.ptr yR),(a0.1,a0.2.1,a0.2.2.1,())⟩]).bind fun r1=>((qjS R n_Z104 o_Z104 [⟨(.ptr yR),(r1.2.1.1,r1.2.1.2.1,r1.2.1.2.2.1,())⟩,⟨yI,(20:Int)⟩]).bind fun r2=>(bif (r2.1==(0:Int)) then(bif (decide ((List.length r1.1:Int)>(1:Int))) then((chk (decide (0≤(1:Int))&&decide ((1:Int)≤(List.length r1.1:Int)))).bind fun _=>(Z114.j0 R N (List.drop (Int.toNat (1:Int)) (List.take (List.length r1.1) r1.1)) r2.2.1.1 r2.2.1.2.1 r2.2.1.2.2.1)) else(Z114.j0 R N r1.1 r2.2.1.1 r2.2.1.2.1 r2.2.1.2.2.1)) else(bif (r2.1==(1:Int)) then((qjS R n_Z101 o_Z101 [⟨(.ptr yR),(r2.2.1.1,r2.2.1.2.1,r2.2.1.2.2.1,())⟩,⟨yL,[(0:Int),(9:Int),(10:Int),(-1:Int)]⟩]).bind fun r11=>((chk (decide ((List.length r1.1+List.length [[r11.1]])*24≤70368744177664))).bind fun _=>(Z114.j0 R N (r1.1++[[r11.1]]) r11.2.1.1 r11.2.1.2.1 r11.2.1.2.2.1))) else(bif (r2.1==(2:Int)) then((chk (decide ((List.length r1.1+List.length [[(0:Int),(1:Int),(2:Int),(3:Int),(4:Int)]])*24≤70368744177664))).bind fun _=>(Z114.j0 R N (r1.1++[[(0:Int),(1:Int),(2:Int),(3:Int),(4:Int)]]) r2.2.1.1 r2.2.1.2.1 r2.2.1.2.2.1)) else(bif (r2.1==(3:Int)) then((qjS R n_Z115 o_Z115 [⟨yK,[[(0:Int),(1:Int),(2:Int),(3:Int)],[(4:Int),(5:Int),(6:Int),(7:Int)],[(0:Int),(1:Int),(8:Int),(9:Int)],[(2:Int),(4:Int),(8:Int)]]⟩]).bind fun r20=>((qjS R n_Z103 o_Z103 [⟨(.ptr yR),(r2.2.1.1,r2.2.1.2.1,r2.2.1.2.2.1,())⟩,⟨yI,(2:Int)⟩]).bind fun r21=>(bif r21.1 then((qjS R n_Z115 o_Z115 [⟨yK,[[(0:Int),(1:Int),(2:Int),(3:Int)],[(4:Int),(5:Int),(6:Int),(7:Int)],[(0:Int),(1:Int),(8:Int),(9:Int)],[(2:Int),(3:Int),(8:Int),(9:Int)],[(4:Int),(5:Int),(8:Int),(9:Int)]]⟩]).bind fun r22=>(Z114.j0 R N r22.1 r21.2.1.1 r21.2.1.2.1 r21.2.1.2.2.1)) else(Z114.j0 R N r20.1 r21.2.1.1 r21.2.1.2.1 r21.2.1.2.2.1)))) else(Z114.j0 R N r1.1 r2.2.1.1 r2.2.1.2.1 r2.2.1.2.2.1))))))):=by kernel_rfl
def Z139.l0(R:Run)(N n:Nat)(a:(vK×Unit))(b:Int)(e:List Int):Option Dv:=R.w (some ⟨(.c (.ip yC a 0)::(V.dead::(V.dead::(.c (.arr 5)::(.c (.d yI b)::(zd 32 [])))))),(zo 5 (some (.arr yI e true false false)::(zo 32 [])))⟩) fun st=>lC R pol_Z139 3 N [1,1,0,1,0,0] F_Z139 n st (kB R pol_Z139 0 (kS R pol_Z139 7 N [1,1,1] F_Z139 (qqA E sg_Z139 F_Z139)))
theorem Z139.l0_succ(R:Run)(hw:R.ok)(N n:Nat)(a:(vK×Unit))(b:Int)(c:List Int):Z139.l0 R N (n+1) a b c=(bif (decide (b<(List.length a.1:Int))) then((idx? a.1 b).bind fun y4=>(bif ((List.length (y4,()).1:Int)==(1:Int)) then((idx? a.1 b).bind fun y5=>((idx? (y5,()).1 (0:Int)).bind fun y6=>((chk (decide ((List.length c+List.length [(y6,()).1])*8≤70368744177664))).bind fun _=>(Z139.l0 R N n a (w64 (b+1)) (c++[(y6,()).1]))))) else(Z139.l0 R N n a (w64 (b+1)) c))) else some ⟨o_Z139,(c,())⟩):=(hw _ _).trans (by kernel_rfl)
theorem Z139.ev(R:Run)(N:Nat)(a0:(vK×Unit)):qp8 E R sg_Z139 pol_Z139 F_Z139 N [⟨(.ptr yC),a0⟩]=(Z139.l0 R N N a0 (0:Int) ([]:List Int)):=by kernel_rfl
def Z138.l0(R:Run)(N n:Nat)(a b:List Int)(e f:Int):Option Dv:=R.w (some ⟨(.c (.d yL a)::(.c (.d yL b)::(.c (.d yI e)::(zd 4 (.c (.d yI f)::(zd 16 [])))))),(zo 27 [])⟩) fun st=>lC R pol_Z138 2 N [1,0,1,0,0] F_Z138 n st (kB R pol_Z138 0 (kS R pol_Z138 6 N [1,1] F_Z138 (qqA E sg_Z138 F_Z138)))
theorem Z138.l0_succ(R:Run)(hw:R.ok)(N n:Nat)(a b:List Int)(c d:Int):Z138.l0 R N (n+1) a b c d=(bif (decide (d<(List.length b:Int))) then((idx? a d).bind fun y5=>(bif ((y5,()).1==c) then((idx? b d).bind fun y6=>some ⟨o_Z138,((y6,()).1,())⟩) else(Z138.l0 R N n a b c (w64 (d+1))))) else some ⟨o_Z138,((-1:Int),())⟩):=(hw _ _).trans (by kernel_rfl)
theorem Z138.ev(R:Run)(N:Nat)(a0 a1:List Int)(a2:Int):qp8 E R sg_Z138 pol_Z138 F_Z138 N [⟨yL,a0⟩,⟨yL,a1⟩,⟨yI,a2⟩]=(Z138.l0 R N N a0 a1 a2 (0:Int)):=by kernel_rfl
def Z137.l0(R:Run)(N n:Nat)(a b e f:List Int)(g:Int):Option Dv:=R.w (some ⟨(.c (.d yL a)::(.c (.d yL b)::(.c (.d yL e)::(zd 5 (.c (.d yL f)::(.c (.d yI g)::(zd 21 []))))))),(zo 34 [])⟩) fun st=>lC R pol_Z137 3 N [1,1,0,1,0,0] F_Z137 n st (kB R pol_Z137 0 (kS R pol_Z137 9 N [1,1,1] F_Z137 (qqA E sg_Z137 F_Z137)))
theorem Z137.l0_succ(R:Run)(hw:R.ok)(N n:Nat)(a b c d:List Int)(e:Int):Z137.l0 R N (n+1) a b c d e=(bif (decide (e<(List.length c:Int))) then((idx? c e).bind fun y6=>((qjS R n_Z138 o_Z138 [⟨yL,a⟩,⟨yL,b⟩,⟨yI,(y6,()).1⟩]).bind fun r7=>(bif (decide (r7.1<(0:Int))) then some ⟨o_Z137,(([]:List Int),false,())⟩ else((qjS R n_Z98 o_Z98 [⟨yL,d⟩,⟨yI,r7.1⟩]).bind fun r8=>(Z137.l0 R N n a b c r8.1 (w64 (e+1))))))) else some ⟨o_Z137,(d,true,())⟩):=(hw _ _).trans (by kernel_rfl)
theorem Z137.ev(R:Run)(N:Nat)(a0 a1 a2:List Int):qp8 E R sg_Z137 pol_Z137 F_Z137 N [⟨yL,a0⟩,⟨yL,a1⟩,⟨yL,a2⟩]=(Z137.l0 R N N a0 a1 a2 ([]:List Int) (0:Int)):=by kernel_rfl
def Z136.j1(R:Run)(N a:Nat)(b e:(vK×Unit))(f g:List Int)(h:Int)(i:Bool):Option Dv:=R.w (some ⟨(.c (.ip yC b 0)::(.c (.ip yC e 0)::(.c (.d yL f)::(.c (.d yL g)::(zd 5 (.c (.d yI h)::(zd 30 (.c (.d .bool i)::[])))))))),(zo 45 [])⟩) fun st=>eC R pol_Z136 N [1,0,1,0,0,1,0,0,1,1] F_Z136 st (kB R pol_Z136 1 (kS R pol_Z136 3 N [1,0,1,0,0,1,1] F_Z136 (kL R pol_Z136 2 N [1,0,1,0,0] F_Z136 a (kB R pol_Z136 0 (kS R pol_Z136 7 N [1,1] F_Z136 (qqA E sg_Z136 F_Z136))))))
def Z136.l0(R:Run)(N n:Nat)(a b:(vK×Unit))(e f:List Int)(g:Int):Option Dv:=R.w (some ⟨(.c (.ip yC a 0)::(.c (.ip yC b 0)::(.c (.d yL e)::(.c (.d yL f)::(zd 5 (.c (.d yI g)::(zd 31 []))))))),(zo 45 [])⟩) fun st=>lC R pol_Z136 2 N [1,0,1,0,0] F_Z136 n st (kB R pol_Z136 0 (kS R pol_Z136 7 N [1,1] F_Z136 (qqA E sg_Z136 F_Z136)))
theorem Z136.j1_eq(R:Run)(hw:R.ok)(N a:Nat)(b c:(vK×Unit))(d e:List Int)(f:Int)(g:Bool):Z136.j1 R N a b c d e f g=(bif g then some ⟨o_Z136,(false,())⟩ else(Z136.l0 R N a b c d e (w64 (f+1)))):=(hw _ _).trans (by kernel_rfl)
theorem Z136.l0_succ(R:Run)(hw:R.ok)(N n:Nat)(a b:(vK×Unit))(c d:List Int)(e:Int):Z136.l0 R N (n+1) a b c d e=(bif (decide (e<(List.length a.1:Int))) then((idx? a.1 e).bind fun y6=>((qjS R n_Z137 o_Z137 [⟨yL,c⟩,⟨yL,d⟩,⟨yL,(y6,()).1⟩]).bind fun r7=>(bif r7.2.1 then((qjS R n_Z121 o_Z121 [⟨(.ptr yC),b⟩,⟨yL,r7.1⟩]).bind fun r8=>(Z136.j1 R N n a b c d e (decide (r8.1<(0:Int))))) else(Z136.j1 R N n a b c d e false)))) else some ⟨o_Z136,(true,())⟩):=(hw _ _).trans (by kernel_rfl)
theorem Z136.ev(R:Run)(N:Nat)(a0 a1:(vK×Unit))(a2 a3:List Int):qp8 E R sg_Z136 pol_Z136 F_Z136 N [⟨(.ptr yC),a0⟩,⟨(.ptr yC),a1⟩,⟨yL,a2⟩,⟨yL,a3⟩]=(Z136.l0 R N N a0 a1 a2 a3 (0:Int)):=by kernel_rfl
def Z134.l4(R:Run)(N a n:Nat)(b e:List Int)(f g h:Int)(i:vK)(j k:List Int)(l m:Int)(o:vK):Option Dv:=R.w (some ⟨(.c (.box 89 0)::(V.dead::(.c (.box 2 0)::(.c (.box 3 0)::(V.dead::(.c (.box 5 0)::(.c (.box 6 0)::(.c (.d yL b)::(.c (.d yL e)::(.c (.arr 27)::(.c (.d yI f)::(.c (.d yI g)::(.c (.d yI h)::(zd 76 [])))))))))))))),(none::(none::(some (.box [.nils yL] false false)::(some (.box [.nils yL] false false)::(none::(some (.box [.arr 91] false false)::(some (.box [.d yK i] false false)::(zo 20 (some (.arr yI j true false false)::(zo 61 (some (.box [.d (.sl (.int .u8)) k,.d yI l,.d (.int .u64) m] false true)::(none::(some (.arr yL o false true false)::[])))))))))))))⟩) fun st=>lC R pol_Z134 15 N [1,1,1,1,1,1,1,1,0,1,0,0,1,0,0,1,1,0,0] F_Z134 n st (kB R pol_Z134 2 (kB R pol_Z134 1 (kS R pol_Z134 12 N [1,1,1,1,1,1,1,1,0,1,0,0,1,1] F_Z134 (kL R pol_Z134 11 N [1,1,1,1,1,1,1,1,0,1,0,0] F_Z134 a (kB R pol_Z134 0 (q0_1 R N (qqA E sg_Z134 F_Z134)))))))
def Z134.j5(R:Run)(N:Nat)(a:vK)(b e:List Int)(f g:Int)(h:vK):Option Dv:=R.w (some ⟨(V.dead::(V.dead::(.c (.box 2 0)::(.c (.box 3 0)::(V.dead::(.c (.box 5 0)::(.c (.box 6 0)::(V.dead::(V.dead::(.c (.arr 27)::(zd 79 []))))))))))),(none::(none::(some (.box [.nils yL] false false)::(some (.box [.nils yL] false false)::(none::(some (.box [.arr 91] false false)::(some (.box [.d yK a] false false)::(zo 20 (some (.arr yI b true false false)::(zo 61 (some (.box [.d (.sl (.int .u8)) e,.d yI f,.d (.int .u64) g] false true)::(none::(some (.arr yL h false true false)::[])))))))))))))⟩) fun st=>eC R pol_Z134 N [1,1,1,1,1,1,1,1,1,1] F_Z134 st (qqA E sg_Z134 F_Z134)
def Z134.j3(R:Run)(N a:Nat)(b e:List Int)(f:Int)(g:Bool)(h:vK)(i j:List Int)(k l:Int)(m:vK):Option Dv:=R.w (some ⟨(.c (.box 89 0)::(V.dead::(.c (.box 2 0)::(.c (.box 3 0)::(V.dead::(.c (.box 5 0)::(.c (.box 6 0)::(.c (.d yL b)::(.c (.d yL e)::(.c (.arr 27)::(.c (.d yI f)::(zd 25 (.c (.d .bool g)::(zd 52 [])))))))))))))),(none::(none::(some (.box [.nils yL] false false)::(some (.box [.nils yL] false false)::(none::(some (.box [.arr 91] false false)::(some (.box [.d yK h] false false)::(zo 20 (some (.arr yI i true false false)::(zo 61 (some (.box [.d (.sl (.int .u8)) j,.d yI k,.d (.int .u64) l] false true)::(none::(some (.arr yL m false true false)::[])))))))))))))⟩) fun st=>eC R pol_Z134 N [1,1,1,1,1,1,1,1,0,1,0,0,0,1] F_Z134 st (kS R pol_Z134 13 N [1,1,1,1,1,1,1,1,0,1,0,0,1] F_Z134 (kL R pol_Z134 11 N [1,1,1,1,1,1,1,1,0,1,0,0] F_Z134 a (kB R pol_Z134 0 (q0_1 R N (qqA E sg_Z134 F_Z134)))))
def Z134.l2(R:Run)(N n:Nat)(a b:List Int)(e:Int)(f:vK)(g h:List Int)(i j:Int)(k:vK):Option Dv:=R.w (some ⟨(.c (.box 89 0)::(V.dead::(.c (.box 2 0)::(.c (.box 3 0)::(V.dead::(.c (.box 5 0)::(.c (.box 6 0)::(.c (.d yL a)::(.c (.d yL b)::(.c (.arr 27)::(.c (.d yI e)::(zd 78 [])))))))))))),(none::(none::(some (.box [.nils yL] false false)::(some (.box [.nils yL] false false)::(none::(some (.box [.arr 91] false false)::(some (.box [.d yK f] false false)::(zo 20 (some (.arr yI g true false false)::(zo 61 (some (.box [.d (.sl (.int .u8)) h,.d yI i,.d (.int .u64) j] false true)::(none::(some (.arr yL k false true false)::[])))))))))))))⟩) fun st=>lC R pol_Z134 11 N [1,1,1,1,1,1,1,1,0,1,0,0] F_Z134 n st (kB R pol_Z134 0 (q0_1 R N (qqA E sg_Z134 F_Z134)))
def Z134.j1(R:Run)(N:Nat)(a:vK)(b:List Int)(e f:Int)(g:vK):Option Dv:=R.w (some ⟨(.c (.box 89 0)::(V.dead::(.c (.box 2 0)::(.c (.box 3 0)::(V.dead::(.c (.box 5 0)::(.c (.box 6 0)::(zd 82 [])))))))),(none::(none::(some (.box [.nils yL] false false)::(some (.box [.nils yL] false false)::(none::(some (.box [.arr 91] false false)::(some (.box [.d yK a] false false)::(zo 82 (some (.box [.d (.sl (.int .u8)) b,.d yI e,.d (.int .u64) f] false true)::(none::(some (.arr yL g false true false)::[])))))))))))⟩) fun st=>eC R pol_Z134 N [1,1,1,1,1] F_Z134 st (qqA E sg_Z134 F_Z134)
def Z134.j0(R:Run)(N:Nat)(a:vK)(b:List Int)(e f:Int)(g:vK):Option Dv:=R.w (some ⟨(.c (.box 89 0)::(V.dead::(.c (.box 2 0)::(.c (.box 3 0)::(V.dead::(.c (.box 5 0)::(.c (.box 6 0)::(zd 82 [])))))))),(none::(none::(some (.box [.nils yL] false false)::(some (.box [.nils yL] false false)::(none::(some (.box [.arr 91] false false)::(some (.box [.d yK a] false false)::(zo 82 (some (.box [.d (.sl (.int .u8)) b,.d yI e,.d (.int .u64) f] false true)::(none::(some (.arr yL g false true false)::[])))))))))))⟩) fun st=>eC R pol_Z134 N [1,1,1,1] F_Z134 st (qqA E sg_Z134 F_Z134)
theorem Z134.l4_succ(R:Run)(hw:R.ok)(N a n:Nat)(b c:List Int)(d e f:Int)(g:vK)(h i:List Int)(j k:Int)(l:vK):Z134.l4 R N a (n+1) b c d e f g h i j k l=(bif (decide (f<(List.length c:Int))) then((chk ((List.length c:Int) != 0)).bind fun _=>((idx? c (Int.tmod (w64 (e+f)) (List.length c:Int))).bind fun y49=>((qjS R n_Z97 o_Z97 [⟨yL,h⟩]).bind fun r50=>((chk (decide ((List.length r50.1+List.length [(y49,()).1])*8≤70368744177664))).bind fun _=>((qjS R n_Z136 o_Z136 [⟨(.ptr yC),(l,())⟩,⟨(.ptr yC),(g,())⟩,⟨yL,b⟩,⟨yL,(r50.1++[(y49,()).1])⟩]).bind fun r51=>(bif r51.1 then((chk (decide ((List.length h+List.length [(y49,()).1])*8≤70368744177664))).bind fun _=>(Z134.l2 R N a b c (w64 (d+1)) g (h++[(y49,()).1]) i j k l)) else(Z134.l4 R N a n b c d e (w64 (f+1)) g h i j k l))))))) else(Z134.l2 R N a b c (w64 (d+1)) g h i j k l)):=(hw _ _).trans (by kernel_rfl)
theorem Z134.j5_eq(R:Run)(hw:R.ok)(N:Nat)(a:vK)(b c:List Int)(d e:Int)(f:vK):Z134.j5 R N a b c d e f=some ⟨o_Z134,(f,a,b,(c,d,e,()),())⟩:=(hw _ _).trans (by kernel_rfl)
theorem Z134.j3_eq(R:Run)(hw:R.ok)(N a:Nat)(b c:List Int)(d:Int)(e:Bool)(f:vK)(g h:List Int)(i j:Int)(k:vK):Z134.j3 R N a b c d e f g h i j k=(bif e then((qjS R n_Z104 o_Z104 [⟨(.ptr yR),(h,i,j,())⟩,⟨yI,(List.length c:Int)⟩]).bind fun r37=>(Z134.l4 R N a N b c d r37.1 (0:Int) f g r37.2.1.1 r37.2.1.2.1 r37.2.1.2.2.1 k)) else((qjS R n_Z104 o_Z104 [⟨(.ptr yR),(h,i,j,())⟩,⟨yI,(18:Int)⟩]).bind fun r81=>(bif (r81.1==(0:Int)) then((chk (decide ((List.length g+List.length [(0:Int)])*8≤70368744177664))).bind fun _=>(Z134.j5 R N f (g++[(0:Int)]) r81.2.1.1 r81.2.1.2.1 r81.2.1.2.2.1 k)) else(bif (r81.1==(1:Int)) then(bif (decide ((List.length g:Int)>(0:Int))) then((qjS R n_Z101 o_Z101 [⟨(.ptr yR),(r81.2.1.1,r81.2.1.2.1,r81.2.1.2.2.1,())⟩,⟨yL,[(-1:Int),(9:Int),(10:Int),(3:Int)]⟩]).bind fun r88=>((chk (decide (0≤(0:Int))&&decide ((0:Int)<(List.length g:Int)))).bind fun _=>(Z134.j5 R N f (List.set g (Int.toNat (0:Int)) r88.1) r88.2.1.1 r88.2.1.2.1 r88.2.1.2.2.1 k))) else(Z134.j5 R N f g r81.2.1.1 r81.2.1.2.1 r81.2.1.2.2.1 k)) else(Z134.j5 R N f g r81.2.1.1 r81.2.1.2.1 r81.2.1.2.2.1 k))))):=(hw _ _).trans (by kernel_rfl)
theorem Z134.l2_succ(R:Run)(hw:R.ok)(N n:Nat)(a b:List Int)(c:Int)(d:vK)(e f:List Int)(g h:Int)(i:vK):Z134.l2 R N (n+1) a b c d e f g h i=(bif (decide (c<(List.length a:Int))) then(Z134.j3 R N n a b c (decide ((List.length b:Int)>(0:Int))) d e f g h i) else(Z134.j3 R N n a b c false d e f g h i)):=(hw _ _).trans (by kernel_rfl)
theorem Z134.j1_eq(R:Run)(hw:R.ok)(N:Nat)(a:vK)(b:List Int)(c d:Int)(e:vK):Z134.j1 R N a b c d e=((qjS R n_Z139 o_Z139 [⟨(.ptr yC),(e,())⟩]).bind fun r16=>((qjS R n_Z139 o_Z139 [⟨(.ptr yC),(a,())⟩]).bind fun r17=>(Z134.l2 R N N r16.1 r17.1 (0:Int) a ([]:List Int) b c d e))):=(hw _ _).trans (by kernel_rfl)
theorem Z134.j0_eq(R:Run)(hw:R.ok)(N:Nat)(a:vK)(b:List Int)(c d:Int)(e:vK):Z134.j0 R N a b c d e=((qjS R n_Z103 o_Z103 [⟨(.ptr yR),(b,c,d,())⟩,⟨yI,(16:Int)⟩]).bind fun r9=>(bif r9.1 then((qjS R n_Z114 o_Z114 [⟨(.ptr yR),(r9.2.1.1,r9.2.1.2.1,r9.2.1.2.2.1,())⟩]).bind fun r10=>(Z134.j1 R N r10.1 r10.2.1.1 r10.2.1.2.1 r10.2.1.2.2.1 e)) else(Z134.j1 R N a r9.2.1.1 r9.2.1.2.1 r9.2.1.2.2.1 e))):=(hw _ _).trans (by kernel_rfl)
theorem Z134.ev(R:Run)(N:Nat)(a0:((List Int)×Int×Int×Unit)):qp8 E R sg_Z134 pol_Z134 F_Z134 N [⟨(.ptr yR),a0⟩]=((qjS R n_Z117 o_Z117 [⟨(.ptr yR),(a0.1,a0.2.1,a0.2.2.1,())⟩]).bind fun r1=>((qjS R n_Z117 o_Z117 [⟨(.ptr yR),(r1.2.1.1,r1.2.1.2.1,r1.2.1.2.2.1,())⟩]).bind fun r2=>((qjS R n_Z103 o_Z103 [⟨(.ptr yR),(r2.2.1.1,r2.2.1.2.1,r2.2.1.2.2.1,())⟩,⟨yI,(3:Int)⟩]).bind fun r3=>(bif r3.1 then(Z134.j0 R N r1.1 r3.2.1.1 r3.2.1.2.1 r3.2.1.2.2.1 r1.1) else(Z134.j0 R N r2.1 r3.2.1.1 r3.2.1.2.1 r3.2.1.2.2.1 r1.1))))):=by kernel_rfl
theorem Z135.ev(R:Run)(N:Nat)(a0:((List Int)×Int×Int×Unit)):qp8 E R sg_Z135 pol_Z135 F_Z135 N [⟨(.ptr yR),a0⟩]=((qjS R n_Z101 o_Z101 [⟨(.ptr yR),(a0.1,a0.2.1,a0.2.2.1,())⟩,⟨yL,[(0:Int),(1:Int),(1:Int),(2:Int),(2:Int),(3:Int),(-1:Int),(4:Int)]⟩]).bind fun r1=>some ⟨o_Z135,(r1.1,(r1.2.1.1,r1.2.1.2.1,r1.2.1.2.2.1,()),())⟩):=by kernel_rfl
theorem Z130.ev(R:Run)(N:Nat)(a0:((List Int)×Int×Int×Unit)):qp8 E R sg_Z130 pol_Z130 F_Z130 N [⟨(.ptr yR),a0⟩]=((qjS R n_Z101 o_Z101 [⟨(.ptr yR),(a0.1,a0.2.1,a0.2.2.1,())⟩,⟨yL,[(2:Int),(3:Int),(5:Int),(7:Int),(251:Int),(2:Int),(3:Int),(5:Int),(4:Int)]⟩]).bind fun r1=>some ⟨o_Z130,(r1.1,(r1.2.1.1,r1.2.1.2.1,r1.2.1.2.2.1,()),())⟩):=by kernel_rfl
theorem Z91.ev(R:Run)(N:Nat)(a0:List Int):qp8 E R sg_Z91 pol_Z91 F_Z91 N [⟨(.sl (.int .u8)),a0⟩]=((qjS R n_Z94 o_Z94 [⟨(.sl (.int .u8)),a0⟩]).bind fun r1=>((qjS R n_Z134 o_Z134 [⟨(.ptr yR),(r1.1.1,r1.1.2.1,r1.1.2.2.1,())⟩]).bind fun r2=>((qjS R n_Z135 o_Z135 [⟨(.ptr yR),(r2.2.2.2.1.1,r2.2.2.2.1.2.1,r2.2.2.2.1.2.2.1,())⟩]).bind fun r3=>((qjS R n_Z130 o_Z130 [⟨(.ptr yR),(r3.2.1.1,r3.2.1.2.1,r3.2.1.2.2.1,())⟩]).bind fun r4=>some ⟨o_Z91,(r2.1,r2.2.1,r2.2.2.1,r3.1,r4.1,())⟩)))):=by kernel_rfl
theorem Z61.ev(R:Run)(N:Nat)(a0 a1 a2:Int):qp8 E R sg_Z61 pol_Z61 F_Z61 N [⟨yI,a0⟩,⟨yI,a1⟩,⟨yI,a2⟩]=(bif (decide (a0≥a1)) then some ⟨o_Z61,((decide (a0≤a2)),())⟩ else some ⟨o_Z61,(false,())⟩):=by kernel_rfl
def Z11.l0(R:Run)(N n:Nat)(a b:Int):Option Dv:=R.w (some ⟨(.c (.d yI a)::(V.dead::(V.dead::(.c (.d yI b)::(zd 14 []))))),(zo 19 [])⟩) fun st=>lC R pol_Z11 4 N [1,1,0,1,0,0] F_Z11 n st (kB R pol_Z11 0 (kS R pol_Z11 8 N [1,1,1] F_Z11 (qqA E sg_Z11 F_Z11)))
theorem Z11.l0_succ(R:Run)(hw:R.ok)(N n:Nat)(a b:Int):Z11.l0 R N (n+1) a b=(bif (decide ((w64 (b*b))≤a)) then((chk (b != 0)).bind fun _=>(bif ((Int.tmod a b)==(0:Int)) then some ⟨o_Z11,(false,())⟩ else(Z11.l0 R N n a (w64 (b+1))))) else some ⟨o_Z11,(true,())⟩):=(hw _ _).trans (by kernel_rfl)
theorem Z11.ev(R:Run)(N:Nat)(a0:Int):qp8 E R sg_Z11 pol_Z11 F_Z11 N [⟨yI,a0⟩]=((qjS R n_Z61 o_Z61 [⟨yI,a0⟩,⟨yI,(2:Int)⟩,⟨yI,(251:Int)⟩]).bind fun r1=>(bif (!r1.1) then some ⟨o_Z11,(false,())⟩ else(Z11.l0 R N N a0 (2:Int)))):=by kernel_rfl
def Z43.l0(R:Run)(N n:Nat)(a:List Int)(b:Int):Option Dv:=R.w (some ⟨(.c (.d yL a)::(V.dead::(V.dead::(.c (.d yI b)::(zd 16 []))))),(zo 21 [])⟩) fun st=>lC R pol_Z43 2 N [1,0,1,0,0] F_Z43 n st (kB R pol_Z43 0 (kS R pol_Z43 6 N [1,1] F_Z43 (qqA E sg_Z43 F_Z43)))
theorem Z43.l0_succ(R:Run)(hw:R.ok)(N n:Nat)(a:List Int)(b:Int):Z43.l0 R N (n+1) a b=(bif (decide (b<(List.length a:Int))) then((idx? a (w64 (b-1))).bind fun y3=>((idx? a b).bind fun y4=>(bif (decide ((y3,()).1≥(y4,()).1)) then some ⟨o_Z43,(false,())⟩ else(Z43.l0 R N n a (w64 (b+1)))))) else some ⟨o_Z43,(true,())⟩):=(hw _ _).trans (by kernel_rfl)
theorem Z43.ev(R:Run)(N:Nat)(a0:List Int):qp8 E R sg_Z43 pol_Z43 F_Z43 N [⟨yL,a0⟩]=(Z43.l0 R N N a0 (1:Int)):=by kernel_rfl
theorem Z44.ev(R:Run)(N:Nat)(a0:Int):qp8 E R sg_Z44 pol_Z44 F_Z44 N [⟨yI,a0⟩]=((qjS R n_Z61 o_Z61 [⟨yI,a0⟩,⟨yI,(0:Int)⟩,⟨yI,(9:Int)⟩]).bind fun r1=>some ⟨o_Z44,(r1.1,())⟩):=by kernel_rfl
theorem Z13.ev(R:Run)(N:Nat)(a0:Int):qp8 E R sg_Z13 pol_Z13 F_Z13 N [⟨yI,a0⟩]=((qjS R n_Z44 o_Z44 [⟨yI,a0⟩]).bind fun r1=>some ⟨o_Z13,((!r1.1),())⟩):=by kernel_rfl
def Z86.l0(R:Run)(N n:Nat)(a:List Int)(b e:Int):Option Dv:=R.w (some ⟨(.c (.d yL a)::(.c (.d (.fn n_Z13 .nil) ())::(zd 5 (.c (.d yI b)::(.c (.d yI e)::(zd 10 [])))))),(zo 21 [])⟩) fun st=>lC R pol_Z85 2 N [1,0,1,0,0] F_Z85 n st (kB R pol_Z85 0 (kS R pol_Z85 7 N [1,1] F_Z85 (qqA E sg_Z85 F_Z85)))
theorem Z86.l0_succ(R:Run)(hw:R.ok)(N n:Nat)(a:List Int)(b c:Int):Z86.l0 R N (n+1) a b c=(bif (decide (c<b)) then((idx? a c).bind fun y4=>((qjS R n_Z13 o_Z13 [⟨yI,(y4,()).1⟩]).bind fun r5=>(bif r5.1 then some ⟨o_Z85,(c,())⟩ else(Z86.l0 R N n a b (w64 (c+1)))))) else some ⟨o_Z85,((-1:Int),())⟩):=(hw _ _).trans (by kernel_rfl)
theorem Z86.ev(R:Run)(N:Nat)(a0:List Int):qp8 E R sg_Z85 pol_Z85 F_Z85 N [⟨yL,a0⟩,⟨(.fn n_Z13 .nil),()⟩]=(Z86.l0 R N N a0 (List.length a0:Int) (0:Int)):=by kernel_rfl
theorem Z77.ev(R:Run)(N:Nat)(a0:List Int):qp8 E R sg_Z76 pol_Z76 F_Z76 N [⟨yL,a0⟩,⟨(.fn n_Z13 .nil),()⟩]=((qjS R n_Z85 o_Z85 [⟨yL,a0⟩,⟨(.fn n_Z13 .nil),()⟩]).bind fun r1=>some ⟨o_Z76,((decide (r1.1≥(0:Int))),())⟩):=by kernel_rfl
theorem Z12.ev(R:Run)(N:Nat)(a0:List Int):qp8 E R sg_Z12 pol_Z12 F_Z12 N [⟨yL,a0⟩]=(bif (decide ((List.length a0:Int)≥(1:Int))) then(bif (decide ((List.length a0:Int)≤(4:Int))) then((qjS R n_Z43 o_Z43 [⟨yL,a0⟩]).bind fun r1=>(bif r1.1 then((qjS R n_Z76 o_Z76 [⟨yL,a0⟩,⟨(.fn n_Z13 .nil),()⟩]).bind fun r2=>some ⟨o_Z12,((!r2.1),())⟩) else some ⟨o_Z12,(false,())⟩)) else some ⟨o_Z12,(false,())⟩) else some ⟨o_Z12,(false,())⟩):=by kernel_rfl
theorem Z3.ev(R:Run)(N:Nat)(a0:Int):qp8 E R sg_Z3 pol_Z3 F_Z3 N [⟨yI,a0⟩]=some ⟨o_Z3,((a0 != a0),())⟩:=by kernel_rfl
theorem Z0.ev(R:Run)(N:Nat)(a0 a1:Int):qp8 E R sg_Z0 pol_Z0 F_Z0 N [⟨yI,a0⟩,⟨yI,a1⟩]=((qjS R n_Z3 o_Z3 [⟨yI,a0⟩]).bind fun r1=>((qjS R n_Z3 o_Z3 [⟨yI,a1⟩]).bind fun r2=>(bif r1.1 then(bif r2.1 then some ⟨o_Z0,((0:Int),())⟩ else some ⟨o_Z0,((-1:Int),())⟩) else(bif r2.1 then some ⟨o_Z0,((1:Int),())⟩ else(bif (decide (a0<a1)) then some ⟨o_Z0,((-1:Int),())⟩ else(bif (decide (a0>a1)) then some ⟨o_Z0,((1:Int),())⟩ else some ⟨o_Z0,((0:Int),())⟩)))))):=by kernel_rfl
theorem Z4.ev(R:Run)(N:Nat)(a0:Int):qp8 E R sg_Z4 pol_Z4 F_Z4 N [⟨yI,a0⟩]=some ⟨o_Z4,((a0 != a0),())⟩:=by kernel_rfl
theorem Z1.ev(R:Run)(N:Nat)(a0 a1:Int):qp8 E R sg_Z1 pol_Z1 F_Z1 N [⟨yI,a0⟩,⟨yI,a1⟩]=((qjS R n_Z4 o_Z4 [⟨yI,a0⟩]).bind fun r1=>((qjS R n_Z4 o_Z4 [⟨yI,a1⟩]).bind fun r2=>(bif r1.1 then(bif r2.1 then some ⟨o_Z1,((0:Int),())⟩ else some ⟨o_Z1,((-1:Int),())⟩) else(bif r2.1 then some ⟨o_Z1,((1:Int),())⟩ else(bif (decide (a0<a1)) then some ⟨o_Z1,((-1:Int),())⟩ else(bif (decide (a0>a1)) then some ⟨o_Z1,((1:Int),())⟩ else some ⟨o_Z1,((0:Int),())⟩)))))):=by kernel_rfl
def Z71.l0(R:Run)(N n:Nat)(a b e:List Int)(f g:Int):Option Dv:=R.w (some ⟨(.c (.d yL a)::(.c (.d yL b)::(zd 7 (.c (.d yL e)::(.c (.d yI f)::(.c (.d yI g)::(zd 24 []))))))),(zo 38 [])⟩) fun st=>lC R pol_Z71 2 N [1,0,1,0,0] F_Z71 n st (kB R pol_Z71 0 (kS R pol_Z71 11 N [1,1] F_Z71 (qqA E sg_Z71 F_Z71)))
theorem Z71.l0_succ(R:Run)(hw:R.ok)(N n:Nat)(a b c:List Int)(d e:Int):Z71.l0 R N (n+1) a b c d e=(bif (decide (e<d)) then((idx? c e).bind fun y6=>(bif (decide (e≥(List.length b:Int))) then some ⟨o_Z71,((1:Int),())⟩ else((idx? b e).bind fun y7=>((qjS R n_Z1 o_Z1 [⟨yI,(y6,()).1⟩,⟨yI,(y7,()).1⟩]).bind fun r8=>(bif (r8.1 != (0:Int)) then some ⟨o_Z71,(r8.1,())⟩ else(Z71.l0 R N n a b c d (w64 (e+1)))))))) else(bif (decide ((List.length a:Int)<(List.length b:Int))) then some ⟨o_Z71,((-1:Int),())⟩ else some ⟨o_Z71,((0:Int),())⟩)):=(hw _ _).trans (by kernel_rfl)
theorem Z71.ev(R:Run)(N:Nat)(a0 a1:List Int):qp8 E R sg_Z71 pol_Z71 F_Z71 N [⟨yL,a0⟩,⟨yL,a1⟩]=(Z71.l0 R N N a0 a1 a0 (List.length a0:Int) (0:Int)):=by kernel_rfl
def Z2.l0(R:Run)(N n:Nat)(a:Int)(b:List Int)(e f:Int):Option Dv:=R.w (some ⟨(zd 3 (.c (.d yI a)::(V.dead::(V.dead::(.c (.d yL b)::(.c (.d yI e)::(.c (.d yI f)::(zd 9 [])))))))),(zo 19 [])⟩) fun st=>lC R pol_Z2 3 N [1,1,0,1,0,0] F_Z2 n st (kB R pol_Z2 0 (kS R pol_Z2 8 N [1,1,1] F_Z2 (qqA E sg_Z2 F_Z2)))
theorem Z2.l0_succ(R:Run)(hw:R.ok)(N n:Nat)(a:Int)(b:List Int)(c d:Int):Z2.l0 R N (n+1) a b c d=(bif (decide (d<c)) then((idx? b d).bind fun y5=>(bif ((y5,()).1 != a) then some ⟨o_Z2,((y5,()).1,())⟩ else(Z2.l0 R N n a b c (w64 (d+1))))) else some ⟨o_Z2,(a,())⟩):=(hw _ _).trans (by kernel_rfl)
theorem Z2.ev(R:Run)(N:Nat)(a0:List Int):qp8 E R sg_Z2 pol_Z2 F_Z2 N [⟨yL,a0⟩]=(Z2.l0 R N N (0:Int) a0 (List.length a0:Int) (0:Int)):=by kernel_rfl
theorem Z22.ev(R:Run)(N:Nat)(a0 a1:List Int):qp8 E R sg_Z22 pol_Z22 F_Z22 N [⟨yL,a0⟩,⟨yL,a1⟩]=((qjS R n_Z0 o_Z0 [⟨yI,(List.length a0:Int)⟩,⟨yI,(List.length a1:Int)⟩]).bind fun r1=>((qjS R n_Z71 o_Z71 [⟨yL,a0⟩,⟨yL,a1⟩]).bind fun r2=>((qjS R n_Z2 o_Z2 [⟨yL,[r1.1,r2.1]⟩]).bind fun r3=>some ⟨o_Z22,(r3.1,())⟩))):=by kernel_rfl
def Z72.l1(R:Run)(N n:Nat)(a:vK)(b e:Int)(f:List Int):Option Dv:=R.w (some ⟨(zd 6 (.c (.arr 37)::(zd 18 (.c (.d yK a)::(.c (.d yI b)::(.c (.d yI e)::(zd 8 []))))))),(zo 37 (some (.arr yI f true false false)::[]))⟩) fun st=>lC R pol_Z72 11 N [1,1,1,1,0,1,0,0] F_Z72 n st (kB R pol_Z72 2 (kS R pol_Z72 15 N [1,1,1,1,1] F_Z72 (qqA E sg_Z72 F_Z72)))
def Z72.l0(R:Run)(N n:Nat)(a:vK)(b:Int)(e:vK)(f g:Int):Option Dv:=R.w (some ⟨(.c (.d yK a)::(V.dead::(V.dead::(.c (.d yI b)::(zd 5 (.c (.d yK e)::(.c (.d yI f)::(.c (.d yI g)::(zd 24 []))))))))),(zo 38 [])⟩) fun st=>lC R pol_Z72 3 N [1,1,0,1,0,0] F_Z72 n st (kB R pol_Z72 0 (kS R pol_Z72 9 N [1,1,1] F_Z72 (qqA E sg_Z72 F_Z72)))
theorem Z72.l1_succ(R:Run)(hw:R.ok)(N n:Nat)(a:vK)(b c:Int)(d:List Int):Z72.l1 R N (n+1) a b c d=(bif (decide (c<b)) then((idx? a c).bind fun y17=>((chk (decide ((List.length d+List.length (y17,()).1)*8≤70368744177664))).bind fun _=>(Z72.l1 R N n a b (w64 (c+1)) (d++(y17,()).1)))) else some ⟨o_Z72,(d,())⟩):=(hw _ _).trans (by kernel_rfl)
theorem Z72.l0_succ(R:Run)(hw:R.ok)(N n:Nat)(a:vK)(b:Int)(c:vK)(d e:Int):Z72.l0 R N (n+1) a b c d e=(bif (decide (e<d)) then((idx? c e).bind fun y6=>(bif (decide ((w64 (b+(List.length (y6,()).1:Int)))<(0:Int))) then none else(Z72.l0 R N n a (w64 (b+(List.length (y6,()).1:Int))) c d (w64 (e+1))))) else((qjS R n_Z80 o_Z80 [⟨yL,([]:List Int)⟩,⟨yI,b⟩]).bind fun r12=>(Z72.l1 R N N a (List.length a:Int) (0:Int) r12.1))):=(hw _ _).trans (by kernel_rfl)
theorem Z72.ev(R:Run)(N:Nat)(a0:vK):qp8 E R sg_Z72 pol_Z72 F_Z72 N [⟨yK,a0⟩]=(Z72.l0 R N N a0 (0:Int) a0 (List.length a0:Int) (0:Int)):=by kernel_rfl
def Z30.l0(R:Run)(N n:Nat)(a:List Int)(b e:Int)(f:vK):Option Dv:=R.w (some ⟨(.c (.d yL a)::(V.dead::(V.dead::(.c (.arr 24)::(V.dead::(V.dead::(.c (.d yI b)::(.c (.d yI e)::(zd 19 []))))))))),(zo 24 (some (.arr yL f true false false)::(zo 4 [])))⟩) fun st=>lC R pol_Z30 3 N [1,1,0,1,0,0] F_Z30 n st (kB R pol_Z30 0 (kS R pol_Z30 8 N [1,1,1] F_Z30 (qqA E sg_Z30 F_Z30)))
theorem Z30.l0_succ(R:Run)(hw:R.ok)(N n:Nat)(a:List Int)(b c:Int)(d:vK):Z30.l0 R N (n+1) a b c d=(bif (decide (c<b)) then(bif (decide ((List.length a:Int)>(1:Int))) then((chk (decide (0≤c)&&decide (c≤(List.length a:Int)))).bind fun _=>((chk (decide (0≤(w64 (c+1)))&&decide ((w64 (c+1))≤(List.length a:Int)))).bind fun _=>((qjS R n_Z72 o_Z72 [⟨yK,[(List.take (Int.toNat c) a),(List.drop (Int.toNat (w64 (c+1))) a)]⟩]).bind fun r5=>((chk (decide ((List.length d+List.length [r5.1])*24≤70368744177664))).bind fun _=>(Z30.l0 R N n a b (w64 (c+1)) (d++[r5.1])))))) else(Z30.l0 R N n a b (w64 (c+1)) d)) else some ⟨o_Z30,(d,())⟩):=(hw _ _).trans (by kernel_rfl)
theorem Z30.ev(R:Run)(N:Nat)(a0:List Int):qp8 E R sg_Z30 pol_Z30 F_Z30 N [⟨yL,a0⟩]=(Z30.l0 R N N a0 (List.length a0:Int) (0:Int) ([]:List (List Int))):=by kernel_rfl
def Z68.l0(R:Run)(N n:Nat)(a:vK)(b:List Int)(e f g:Int):Option Dv:=R.w (some ⟨(.c (.d yK a)::(.c (.d yL b)::(.c (.d (.fn n_Z22 .nil) ())::(zd 5 (.c (.d yI e)::(.c (.d yI f)::(.c (.d yI g)::(zd 38 [])))))))),(zo 52 [])⟩) fun st=>lC R pol_Z67 3 N [1,1,1,0,0,0] F_Z67 n st (kB R pol_Z67 0 (kS R pol_Z67 8 N [1,1,1,1] F_Z67 (qqA E sg_Z67 F_Z67)))
theorem Z68.l0_succ(R:Run)(hw:R.ok)(N n:Nat)(a:vK)(b:List Int)(c d e:Int):Z68.l0 R N (n+1) a b c d e=(bif (decide (d<e)) then((chk (decide (0≤(1:Int)))).bind fun _=>((idx? a (w64 ((Int.fdiv (IntKind.wrap .u64 ((w64 (d+e)))) (2 ^ (min (Int.toNat (1:Int)) (IntKind.bits .u64))))))).bind fun y6=>((qjS R n_Z22 o_Z22 [⟨yL,(y6,()).1⟩,⟨yL,b⟩]).bind fun r7=>(bif (decide (r7.1<(0:Int))) then(Z68.l0 R N n a b c (w64 ((w64 ((Int.fdiv (IntKind.wrap .u64 ((w64 (d+e)))) (2 ^ (min (Int.toNat (1:Int)) (IntKind.bits .u64))))))+(1:Int))) e) else(Z68.l0 R N n a b c d (w64 ((Int.fdiv (IntKind.wrap .u64 ((w64 (d+e)))) (2 ^ (min (Int.toNat (1:Int)) (IntKind.bits .u64))))))))))) else(bif (decide (d<c)) then((idx? a d).bind fun y18=>((qjS R n_Z22 o_Z22 [⟨yL,(y18,()).1⟩,⟨yL,b⟩]).bind fun r19=>some ⟨o_Z67,(d,(r19.1==(0:Int)),())⟩)) else some ⟨o_Z67,(d,false,())⟩)):=(hw _ _).trans (by kernel_rfl)
theorem Z68.ev(R:Run)(N:Nat)(a0:vK)(a1:List Int):qp8 E R sg_Z67 pol_Z67 F_Z67 N [⟨yK,a0⟩,⟨yL,a1⟩,⟨(.fn n_Z22 .nil),()⟩]=(Z68.l0 R N N a0 a1 (List.length a0:Int) (0:Int) (List.length a0:Int)):=by kernel_rfl
theorem Z37.ev(R:Run)(N:Nat)(a0:vK)(a1:List Int):qp8 E R sg_Z37 pol_Z37 F_Z37 N [⟨yK,a0⟩,⟨yL,a1⟩]=((qjS R n_Z67 o_Z67 [⟨yK,a0⟩,⟨yL,a1⟩,⟨(.fn n_Z22 .nil),()⟩]).bind fun r1=>(bif (!r1.2.1) then some ⟨o_Z37,((-1:Int),())⟩ else some ⟨o_Z37,(r1.1,())⟩)):=by kernel_rfl
theorem Z10.ev(R:Run)(N:Nat)(a0:List Int)(a1:(vK×Unit))(a2:(Int×Unit)):qp8 E R sg_Z10 pol_Z10 F_Z10 N [⟨yL,a0⟩,⟨(.ptr yC),a1⟩,⟨(.ptr (.cons yI .nil)),a2⟩]=((chk (decide (0≤a2.1)&&decide (a2.1≤(List.length a1.1:Int)))).bind fun _=>((qjS R n_Z37 o_Z37 [⟨yK,(List.take (Int.toNat a2.1) a1.1)⟩,⟨yL,a0⟩]).bind fun r1=>some ⟨o_Z10,((decide (r1.1<(0:Int))),())⟩)):=by kernel_rfl
def Z82.l0(R:Run)(N n:Nat)(a:vK)(b:((vK×Unit)×(Int×Unit)×Unit))(e f:Int):Option Dv:=R.w (some ⟨(.c (.d yK a)::(.c (.d (.fn n_Z10 (.cons (.ptr yC) (.cons (.ptr (.cons yI .nil)) .nil))) b)::(zd 5 (.c (.d yI e)::(.c (.d yI f)::(zd 10 [])))))),(zo 21 [])⟩) fun st=>q0_3 R N n st (kB R pol_Z81 0 (q0_2 R N (qqA E sg_Z81 F_Z81)))
theorem Z82.l0_succ(R:Run)(hw:R.ok)(N n:Nat)(a:vK)(b:((vK×Unit)×(Int×Unit)×Unit))(c d:Int):Z82.l0 R N (n+1) a b c d=(bif (decide (d<c)) then((idx? a d).bind fun y5=>((qjS R n_Z10 o_Z10 [⟨yL,(y5,()).1⟩,⟨(.ptr yC),b.1⟩,⟨(.ptr (.cons yI .nil)),b.2.1⟩]).bind fun r6=>(bif r6.1 then some ⟨o_Z81,(d,())⟩ else(Z82.l0 R N n a b c (w64 (d+1)))))) else some ⟨o_Z81,((-1:Int),())⟩):=(hw _ _).trans (by kernel_rfl)
theorem Z82.ev(R:Run)(N:Nat)(a0:vK)(a1:((vK×Unit)×(Int×Unit)×Unit)):qp8 E R sg_Z81 pol_Z81 F_Z81 N [⟨yK,a0⟩,⟨(.fn n_Z10 (.cons (.ptr yC) (.cons (.ptr (.cons yI .nil)) .nil))),a1⟩]=(Z82.l0 R N N a0 a1 (List.length a0:Int) (0:Int)):=by kernel_rfl
theorem Z74.ev(R:Run)(N:Nat)(a0:vK)(a1:((vK×Unit)×(Int×Unit)×Unit)):qp8 E R sg_Z73 pol_Z73 F_Z73 N [⟨yK,a0⟩,⟨(.fn n_Z10 (.cons (.ptr yC) (.cons (.ptr (.cons yI .nil)) .nil))),a1⟩]=((qjS R n_Z81 o_Z81 [⟨yK,a0⟩,⟨(.fn n_Z10 (.cons (.ptr yC) (.cons (.ptr (.cons yI .nil)) .nil))),a1⟩]).bind fun r1=>some ⟨o_Z73,((decide (r1.1≥(0:Int))),())⟩):=by kernel_rfl
def Z9.j1(R:Run)(N a:Nat)(b:List Int)(e:vK)(f g:Int)(h:Bool)(i:vK)(j:Int):Option Dv:=R.w (some ⟨(V.dead::(.c (.box 1 0)::(V.dead::(.c (.box 3 0)::(.c (.d yL b)::(V.dead::(.c (.d yK e)::(.c (.d yI f)::(.c (.d yI g)::(zd 21 (.c (.d .bool h)::(zd 9 [])))))))))))),(none::(some (.box [.d yK i] true false)::(none::(some (.box [.d yI j] false false)::(zo 37 [])))))⟩) fun st=>eC R pol_Z9 N [1,0,1,0,0,1,1,0,0,1,0,1] F_Z9 st (kS R pol_Z9 6 N [1,0,1,0,0,1,1,0,0,1,1] F_Z9 (kB R pol_Z9 1 (kS R pol_Z9 8 N [1,0,1,0,0,1,1,1] F_Z9 (kL R pol_Z9 2 N [1,0,1,0,0] F_Z9 a (kB R pol_Z9 0 (kS R pol_Z9 9 N [1,1] F_Z9 (qqA E sg_Z9 F_Z9)))))))
def Z9.l0(R:Run)(N n:Nat)(a:vK)(b e:Int)(f:vK):Option Dv:=R.w (some ⟨(V.dead::(.c (.box 1 0)::(zd 4 (.c (.d yK a)::(.c (.d yI b)::(.c (.d yI e)::(zd 31 []))))))),(none::(some (.box [.d yK f] true false)::(zo 39 [])))⟩) fun st=>lC R pol_Z9 2 N [1,0,1,0,0] F_Z9 n st (kB R pol_Z9 0 (kS R pol_Z9 9 N [1,1] F_Z9 (qqA E sg_Z9 F_Z9)))
theorem Z9.j1_eq(R:Run)(hw:R.ok)(N a:Nat)(b:List Int)(c:vK)(d e:Int)(f:Bool)(g:vK)(h:Int):Z9.j1 R N a b c d e f g h=(bif f then some ⟨o_Z9,(false,())⟩ else((qjS R n_Z30 o_Z30 [⟨yL,b⟩]).bind fun r14=>((qjS R n_Z73 o_Z73 [⟨yK,r14.1⟩,⟨(.fn n_Z10 (.cons (.ptr yC) (.cons (.ptr (.cons yI .nil)) .nil))),((g,()),(h,()),())⟩]).bind fun r15=>(bif r15.1 then some ⟨o_Z9,(false,())⟩ else(Z9.l0 R N a c d (w64 (e+1)) g))))):=(hw _ _).trans (by kernel_rfl)
theorem Z9.l0_succ(R:Run)(hw:R.ok)(N n:Nat)(a:vK)(b c:Int)(d:vK):Z9.l0 R N (n+1) a b c d=(bif (decide (c<b)) then((idx? a c).bind fun y5=>((qjS R n_Z12 o_Z12 [⟨yL,(y5,()).1⟩]).bind fun r6=>(bif (!r6.1) then(Z9.j1 R N n ((y5,()).1) a b c true d c) else(bif (decide (c>(0:Int))) then((idx? d (w64 (c-1))).bind fun y20=>((qjS R n_Z22 o_Z22 [⟨yL,(y20,()).1⟩,⟨yL,(y5,()).1⟩]).bind fun r21=>(Z9.j1 R N n ((y5,()).1) a b c (decide (r21.1≥(0:Int))) d c))) else(Z9.j1 R N n ((y5,()).1) a b c false d c))))) else some ⟨o_Z9,((decide ((List.length d:Int)≤(48:Int))),())⟩):=(hw _ _).trans (by kernel_rfl)
theorem Z9.ev(R:Run)(N:Nat)(a0:vK):qp8 E R sg_Z9 pol_Z9 F_Z9 N [⟨yK,a0⟩]=(Z9.l0 R N N a0 (List.length a0:Int) (0:Int) a0):=by kernel_rfl
def Z60.l0(R:Run)(N n:Nat)(a:vK)(b e:Int)(f:List Int):Option Dv:=R.w (some ⟨(zd 3 (.c (.arr 21)::(zd 3 (.c (.d yK a)::(.c (.d yI b)::(.c (.d yI e)::(zd 14 []))))))),(zo 21 (some (.arr yI f true false false)::(zo 3 [])))⟩) fun st=>lC R pol_Z60 3 N [1,1,0,1,0,0] F_Z60 n st (kB R pol_Z60 0 (kS R pol_Z60 8 N [1,1,1] F_Z60 (qqA E sg_Z60 F_Z60)))
theorem Z60.l0_succ(R:Run)(hw:R.ok)(N n:Nat)(a:vK)(b c:Int)(d:List Int):Z60.l0 R N (n+1) a b c d=(bif (decide (c<b)) then((idx? a c).bind fun y5=>(bif ((List.length (y5,()).1:Int)==(1:Int)) then((idx? (y5,()).1 (0:Int)).bind fun y6=>((chk (decide ((List.length d+List.length [(y6,()).1])*8≤70368744177664))).bind fun _=>(Z60.l0 R N n a b (w64 (c+1)) (d++[(y6,()).1])))) else(Z60.l0 R N n a b (w64 (c+1)) d))) else some ⟨o_Z60,(d,())⟩):=(hw _ _).trans (by kernel_rfl)
theorem Z60.ev(R:Run)(N:Nat)(a0:vK):qp8 E R sg_Z60 pol_Z60 F_Z60 N [⟨yK,a0⟩]=(Z60.l0 R N N a0 (List.length a0:Int) (0:Int) ([]:List Int)):=by kernel_rfl
def Z89.l0(R:Run)(N n:Nat)(a:List Int)(b e f:Int):Option Dv:=R.w (some ⟨(.c (.d yL a)::(.c (.d yI b)::(zd 5 (.c (.d yI e)::(.c (.d yI f)::(zd 10 [])))))),(zo 21 [])⟩) fun st=>lC R pol_Z89 2 N [1,0,1,0,0] F_Z89 n st (kB R pol_Z89 0 (kS R pol_Z89 7 N [1,1] F_Z89 (qqA E sg_Z89 F_Z89)))
theorem Z89.l0_succ(R:Run)(hw:R.ok)(N n:Nat)(a:List Int)(b c d:Int):Z89.l0 R N (n+1) a b c d=(bif (decide (d<c)) then((idx? a d).bind fun y5=>(bif (b==(y5,()).1) then some ⟨o_Z89,(d,())⟩ else(Z89.l0 R N n a b c (w64 (d+1))))) else some ⟨o_Z89,((-1:Int),())⟩):=(hw _ _).trans (by kernel_rfl)
theorem Z89.ev(R:Run)(N:Nat)(a0:List Int)(a1:Int):qp8 E R sg_Z89 pol_Z89 F_Z89 N [⟨yL,a0⟩,⟨yI,a1⟩]=(Z89.l0 R N N a0 a1 (List.length a0:Int) (0:Int)):=by kernel_rfl
def Z35.l0(R:Run)(N n:Nat)(a b e:List Int)(f g:Int)(h:List Int):Option Dv:=R.w (some ⟨(V.dead::(.c (.d yL a)::(zd 5 (.c (.d yL b)::(.c (.arr 27)::(zd 4 (.c (.d yL e)::(.c (.d yI f)::(.c (.d yI g)::(zd 17 [])))))))))),(zo 27 (some (.arr yI h true false false)::(zo 9 [])))⟩) fun st=>lC R pol_Z35 4 N [1,1,1,0,1,0,0] F_Z35 n st (kB R pol_Z35 0 (kS R pol_Z35 8 N [1,1,1,1] F_Z35 (qqA E sg_Z35 F_Z35)))
theorem Z35.l0_succ(R:Run)(hw:R.ok)(N n:Nat)(a b c:List Int)(d e:Int)(f:List Int):Z35.l0 R N (n+1) a b c d e f=(bif (decide (e<d)) then((idx? c e).bind fun y8=>((qjS R n_Z89 o_Z89 [⟨yL,b⟩,⟨yI,(y8,()).1⟩]).bind fun r9=>((idx? a r9.1).bind fun y10=>((chk (decide ((List.length f+List.length [(y10,()).1])*8≤70368744177664))).bind fun _=>(Z35.l0 R N n a b c d (w64 (e+1)) (f++[(y10,()).1])))))) else((qjS R n_Z90 o_Z90 [⟨yL,f⟩]).bind fun r17=>((qjS R n_Z70 o_Z70 [⟨yL,r17.1⟩]).bind fun r18=>some ⟨o_Z35,(r18.1,())⟩))):=(hw _ _).trans (by kernel_rfl)
theorem Z35.ev(R:Run)(N:Nat)(a0:vK)(a1 a2:List Int):qp8 E R sg_Z35 pol_Z35 F_Z35 N [⟨yK,a0⟩,⟨yL,a1⟩,⟨yL,a2⟩]=((qjS R n_Z60 o_Z60 [⟨yK,a0⟩]).bind fun r1=>(Z35.l0 R N N a1 r1.1 a2 (List.length a2:Int) (0:Int) ([]:List Int))):=by kernel_rfl
theorem Z42.ev(R:Run)(N:Nat)(a0:List Int)(a1 a2:(vK×Unit))(a3:((List Int)×Unit)):qp8 E R sg_Z42 pol_Z42 F_Z42 N [⟨yL,a0⟩,⟨(.ptr yC),a1⟩,⟨(.ptr yC),a2⟩,⟨(.ptr (.cons yL .nil)),a3⟩]=((qjS R n_Z35 o_Z35 [⟨yK,a2.1⟩,⟨yL,a3.1⟩,⟨yL,a0⟩]).bind fun r1=>((qjS R n_Z37 o_Z37 [⟨yK,a1.1⟩,⟨yL,r1.1⟩]).bind fun r2=>some ⟨o_Z42,((decide (r2.1<(0:Int))),())⟩)):=by kernel_rfl
def Z84.l0(R:Run)(N n:Nat)(a:vK)(b:((vK×Unit)×(vK×Unit)×((List Int)×Unit)×Unit))(e f:Int):Option Dv:=R.w (some ⟨(.c (.d yK a)::(.c (.d (.fn n_Z42 (.cons (.ptr yC) (.cons (.ptr yC) (.cons (.ptr (.cons yL .nil)) .nil)))) b)::(zd 5 (.c (.d yI e)::(.c (.d yI f)::(zd 10 [])))))),(zo 21 [])⟩) fun st=>q0_3 R N n st (kB R pol_Z81 0 (q0_2 R N (qqA E sg_Z81 F_Z81)))
theorem Z84.l0_succ(R:Run)(hw:R.ok)(N n:Nat)(a:vK)(b:((vK×Unit)×(vK×Unit)×((List Int)×Unit)×Unit))(c d:Int):Z84.l0 R N (n+1) a b c d=(bif (decide (d<c)) then((idx? a d).bind fun y5=>((qjS R n_Z42 o_Z42 [⟨yL,(y5,()).1⟩,⟨(.ptr yC),b.1⟩,⟨(.ptr yC),b.2.1⟩,⟨(.ptr (.cons yL .nil)),b.2.2.1⟩]).bind fun r6=>(bif r6.1 then some ⟨o_Z81,(d,())⟩ else(Z84.l0 R N n a b c (w64 (d+1)))))) else some ⟨o_Z81,((-1:Int),())⟩):=(hw _ _).trans (by kernel_rfl)
theorem Z84.ev(R:Run)(N:Nat)(a0:vK)(a1:((vK×Unit)×(vK×Unit)×((List Int)×Unit)×Unit)):qp8 E R sg_Z81 pol_Z81 F_Z81 N [⟨yK,a0⟩,⟨(.fn n_Z42 (.cons (.ptr yC) (.cons (.ptr yC) (.cons (.ptr (.cons yL .nil)) .nil)))),a1⟩]=(Z84.l0 R N N a0 a1 (List.length a0:Int) (0:Int)):=by kernel_rfl
theorem Z75.ev(R:Run)(N:Nat)(a0:vK)(a1:((vK×Unit)×(vK×Unit)×((List Int)×Unit)×Unit)):qp8 E R sg_Z73 pol_Z73 F_Z73 N [⟨yK,a0⟩,⟨(.fn n_Z42 (.cons (.ptr yC) (.cons (.ptr yC) (.cons (.ptr (.cons yL .nil)) .nil)))),a1⟩]=((qjS R n_Z81 o_Z81 [⟨yK,a0⟩,⟨(.fn n_Z42 (.cons (.ptr yC) (.cons (.ptr yC) (.cons (.ptr (.cons yL .nil)) .nil)))),a1⟩]).bind fun r1=>some ⟨o_Z73,((decide (r1.1≥(0:Int))),())⟩):=by kernel_rfl
theorem Z41.ev(R:Run)(N:Nat)(a0 a1:vK)(a2:List Int):qp8 E R sg_Z41 pol_Z41 F_Z41 N [⟨yK,a0⟩,⟨yK,a1⟩,⟨yL,a2⟩]=((qjS R n_Z60 o_Z60 [⟨yK,a0⟩]).bind fun r1=>(bif ((List.length a2:Int) != (List.length r1.1:Int)) then some ⟨o_Z41,(false,())⟩ else((qjS R n_Z73 o_Z73 [⟨yK,a0⟩,⟨(.fn n_Z42 (.cons (.ptr yC) (.cons (.ptr yC) (.cons (.ptr (.cons yL .nil)) .nil)))),((a1,()),(a0,()),(a2,()),())⟩]).bind fun r2=>some ⟨o_Z41,((!r2.1),())⟩))):=by kernel_rfl
def Z48.j0(R:Run)(N:Nat)(a:List Int)(b:Bool)(e f:vK):Option Dv:=R.w (some ⟨(V.dead::(V.dead::(.c (.d yL a)::(.c (.box 3 0)::(.c (.box 4 0)::(V.dead::(V.dead::(.c (.d .bool b)::(zd 14 []))))))))),(zo 3 (some (.box [.d yK e] false false)::(some (.box [.d yK f] false false)::(zo 20 []))))⟩) fun st=>eC R pol_Z48 N [1,0,0,1] F_Z48 st (kB R pol_Z48 0 (kS R pol_Z48 5 N [1,1] F_Z48 (qqA E sg_Z48 F_Z48)))
theorem Z48.j0_eq(R:Run)(hw:R.ok)(N:Nat)(a:List Int)(b:Bool)(c d:vK):Z48.j0 R N a b c d=(bif b then some ⟨o_Z48,((1:Int),())⟩ else((qjS R n_Z41 o_Z41 [⟨yK,c⟩,⟨yK,d⟩,⟨yL,a⟩]).bind fun r6=>(bif (!r6.1) then some ⟨o_Z48,((7:Int),())⟩ else some ⟨o_Z48,((0:Int),())⟩))):=(hw _ _).trans (by kernel_rfl)
theorem Z48.ev(R:Run)(N:Nat)(a0 a1:vK)(a2:List Int):qp8 E R sg_Z48 pol_Z48 F_Z48 N [⟨yK,a0⟩,⟨yK,a1⟩,⟨yL,a2⟩]=((qjS R n_Z9 o_Z9 [⟨yK,a0⟩]).bind fun r1=>(bif (!r1.1) then(Z48.j0 R N a2 true a0 a1) else((qjS R n_Z9 o_Z9 [⟨yK,a1⟩]).bind fun r7=>(Z48.j0 R N a2 (!r7.1) a0 a1)))):=by kernel_rfl
theorem Z40.ev(R:Run)(N:Nat)(a0:Int):qp8 E R sg_Z40 pol_Z40 F_Z40 N [⟨yI,a0⟩]=((qjS R n_Z61 o_Z61 [⟨yI,a0⟩,⟨yI,(0:Int)⟩,⟨yI,(3:Int)⟩]).bind fun r1=>some ⟨o_Z40,(r1.1,())⟩):=by kernel_rfl
theorem Z56.ev(R:Run)(N:Nat)(a0:List Int):qp8 E R sg_Z56 pol_Z56 F_Z56 N [⟨yL,a0⟩]=some ⟨o_Z56,((List.length a0:Int),())⟩:=by kernel_rfl
def Z54.l0(R:Run)(N n:Nat)(a:Int)(b:vK)(e f:Int)(g:List Int):Option Dv:=R.w (some ⟨(V.dead::(.c (.d yI a)::(zd 3 (.c (.arr 24)::(zd 3 (.c (.d yK b)::(.c (.d yI e)::(.c (.d yI f)::(zd 15 []))))))))),(zo 24 (some (.arr yI g true false false)::(zo 4 [])))⟩) fun st=>lC R pol_Z54 3 N [1,1,0,1,0,0] F_Z54 n st (kB R pol_Z54 0 (kS R pol_Z54 8 N [1,1,1] F_Z54 (qqA E sg_Z54 F_Z54)))
theorem Z54.l0_succ(R:Run)(hw:R.ok)(N n:Nat)(a:Int)(b:vK)(c d:Int)(e:List Int):Z54.l0 R N (n+1) a b c d e=(bif (decide (d<c)) then((idx? b d).bind fun y6=>((qjS R n_Z56 o_Z56 [⟨yL,(y6,()).1⟩]).bind fun r7=>(bif (r7.1==(w64 (a+1))) then((chk (decide ((List.length e+List.length [d])*8≤70368744177664))).bind fun _=>(Z54.l0 R N n a b c (w64 (d+1)) (e++[d]))) else(Z54.l0 R N n a b c (w64 (d+1)) e)))) else some ⟨o_Z54,(e,())⟩):=(hw _ _).trans (by kernel_rfl)
theorem Z54.ev(R:Run)(N:Nat)(a0:vK)(a1:Int):qp8 E R sg_Z54 pol_Z54 F_Z54 N [⟨yK,a0⟩,⟨yI,a1⟩]=(Z54.l0 R N N a1 a0 (List.length a0:Int) (0:Int) ([]:List Int)):=by kernel_rfl
def Z20.j1(R:Run)(N a:Nat)(b e f:Int)(g:Bool)(h i:vK):Option Dv:=R.w (some ⟨(zd 3 (.c (.d yI b)::(V.dead::(.c (.d yI e)::(.c (.box 6 0)::(.c (.box 7 0)::(zd 6 (.c (.d yI f)::(zd 34 (.c (.d .bool g)::[])))))))))),(zo 6 (some (.box [.d yK h] false false)::(some (.box [.d yK i] false false)::(zo 48 []))))⟩) fun st=>eC R pol_Z20 N [1,1,1,1,0,1,0,0,1,0,0,1] F_Z20 st (kB R pol_Z20 1 (kS R pol_Z20 10 N [1,1,1,1,0,1,0,0,1,1] F_Z20 (kL R pol_Z20 9 N [1,1,1,1,0,1,0,0] F_Z20 a (kB R pol_Z20 0 (kS R pol_Z20 13 N [1,1,1,1,1] F_Z20 (qqA E sg_Z20 F_Z20))))))
def Z20.l0(R:Run)(N n:Nat)(a b e:Int)(f g:vK):Option Dv:=R.w (some ⟨(zd 3 (.c (.d yI a)::(V.dead::(.c (.d yI b)::(.c (.box 6 0)::(.c (.box 7 0)::(zd 6 (.c (.d yI e)::(zd 35 []))))))))),(zo 6 (some (.box [.d yK f] false false)::(some (.box [.d yK g] false false)::(zo 48 []))))⟩) fun st=>lC R pol_Z20 9 N [1,1,1,1,0,1,0,0] F_Z20 n st (kB R pol_Z20 0 (kS R pol_Z20 13 N [1,1,1,1,1] F_Z20 (qqA E sg_Z20 F_Z20)))
theorem Z20.j1_eq(R:Run)(hw:R.ok)(N a:Nat)(b c d:Int)(e:Bool)(f g:vK):Z20.j1 R N a b c d e f g=(bif e then some ⟨o_Z20,((5:Int),())⟩ else(Z20.l0 R N a b c (w64 (d+1)) f g)):=(hw _ _).trans (by kernel_rfl)
theorem Z20.l0_succ(R:Run)(hw:R.ok)(N n:Nat)(a b c:Int)(d e:vK):Z20.l0 R N (n+1) a b c d e=(bif (decide (c≤(w64 (a+b)))) then((qjS R n_Z54 o_Z54 [⟨yK,d⟩,⟨yI,c⟩]).bind fun r9=>(bif (decide ((List.length r9.1:Int)>(32:Int))) then(Z20.j1 R N n a b c true d e) else((qjS R n_Z54 o_Z54 [⟨yK,e⟩,⟨yI,c⟩]).bind fun r21=>(Z20.j1 R N n a b c (decide ((List.length r21.1:Int)>(32:Int))) d e)))) else some ⟨o_Z20,((0:Int),())⟩):=(hw _ _).trans (by kernel_rfl)
theorem Z20.ev(R:Run)(N:Nat)(a0 a1:vK)(a2:List Int)(a3 a4 a5:Int):qp8 E R sg_Z20 pol_Z20 F_Z20 N [⟨yK,a0⟩,⟨yK,a1⟩,⟨yL,a2⟩,⟨yI,a3⟩,⟨yI,a4⟩,⟨yI,a5⟩]=((qjS R n_Z11 o_Z11 [⟨yI,a4⟩]).bind fun r1=>(bif (!r1.1) then some ⟨o_Z20,((1:Int),())⟩ else((qjS R n_Z48 o_Z48 [⟨yK,a0⟩,⟨yK,a1⟩,⟨yL,a2⟩]).bind fun r2=>(bif (r2.1 != (0:Int)) then some ⟨o_Z20,(r2.1,())⟩ else((qjS R n_Z40 o_Z40 [⟨yI,a3⟩]).bind fun r3=>(bif (!r3.1) then some ⟨o_Z20,((2:Int),())⟩ else(Z20.l0 R N N a3 a5 (w64 (a3-a5)) a0 a1))))))):=by kernel_rfl
theorem Z63.ev(R:Run)(N:Nat)(a0 a1:Int):qp8 E R sg_Z63 pol_Z63 F_Z63 N [⟨yI,a0⟩,⟨yI,a1⟩]=some ⟨o_Z63,((0:Int),())⟩:=by kernel_rfl
end
end VeT
