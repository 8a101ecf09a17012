import Derived.Test.YtjnnliedeobfgaaGreatV2
import Derived.Test.YtjnnliedeobfgaaGreatProg
import Derived.KernelRfl
set_option linter.unusedVariables false
set_option linter.unusedSimpArgs false
open Go Go.Proofs Ve
set_option maxRecDepth 100000
namespace VeT
abbrev yM : Ty := .cons (.int .i64) (.cons (.int .i64) (.cons (.int .i64) (.cons (.sl (.int .i64)) .nil)))
abbrev yI : Ty := .int .i64
abbrev yL : Ty := .sl yI
abbrev yK : Ty := .sl yL
abbrev yN : Ty := .sl (.st yM)
abbrev yS : Ty := .cons yK (.cons yI (.cons yL (.cons yN .nil)))
abbrev yR : Ty := .cons (.sl (.int .u8)) (.cons yI (.cons (.int .u64) .nil))
abbrev yC : Ty := .cons yK .nil
abbrev vM := Int × Int × Int × List Int × Unit
abbrev vK := List (List Int)
abbrev vN := List vM
abbrev vS := vK × Int × List Int × vN × Unit
noncomputable section
def bodyOf(f:Func):Code:=f.body.getD .skip
def zd:Nat→List Ve.V→List Ve.V
  | 0,t=>t
  | n+1,t=>V.dead::zd n t
def zo:Nat→List (Option Ve.Obj)→List (Option Ve.Obj)
  | 0,t=>t
  | n+1,t=>none::zo n t
abbrev n_Z39:Nat:=8
abbrev n_Z40:Nat:=24
abbrev n_Z64:Nat:=48
abbrev n_Z5:Nat:=49
abbrev n_Z7:Nat:=50
abbrev n_Z66:Nat:=51
abbrev n_Z8:Nat:=52
abbrev n_Z69:Nat:=53
abbrev n_Z6:Nat:=54
abbrev n_Z65:Nat:=55
abbrev n_Z63:Nat:=56
abbrev n_Z67:Nat:=57
abbrev n_Z68:Nat:=58
abbrev n_Z71:Nat:=78
abbrev n_Z91:Nat:=83
abbrev n_Z80:Nat:=85
abbrev n_Z105:Nat:=97
abbrev n_Z106:Nat:=98
abbrev n_Z103:Nat:=99
abbrev n_Z16:Nat:=100
abbrev n_Z15:Nat:=101
abbrev n_Z33:Nat:=103
abbrev n_Z101:Nat:=106
abbrev n_Z9:Nat:=108
abbrev n_Z27:Nat:=109
abbrev n_Z22:Nat:=110
abbrev n_Z11:Nat:=113
abbrev n_Z36:Nat:=114
abbrev n_Z98:Nat:=120
abbrev n_Z70:Nat:=121
abbrev n_Z92:Nat:=123
abbrev n_Z97:Nat:=125
abbrev n_Z32:Nat:=128
abbrev n_Z51:Nat:=129
abbrev n_Z24:Nat:=132
abbrev n_Z60:Nat:=133
abbrev n_Z37:Nat:=137
abbrev n_Z109:Nat:=152
abbrev n_Z31:Nat:=153
abbrev n_Z23:Nat:=154
abbrev n_Z53:Nat:=155
abbrev n_Z100:Nat:=156
abbrev n_Z96:Nat:=157
abbrev n_Z102:Nat:=158
abbrev n_Z82:Nat:=159
abbrev n_Z86:Nat:=160
abbrev n_Z85:Nat:=161
abbrev n_Z47:Nat:=175
abbrev n_Z77:Nat:=179
abbrev n_Z34:Nat:=181
abbrev n_Z35:Nat:=182
abbrev n_Z26:Nat:=192
abbrev n_Z72:Nat:=197
abbrev n_Z78:Nat:=198
abbrev n_Z83:Nat:=205
abbrev n_Z87:Nat:=206
abbrev n_Z95:Nat:=207
abbrev n_Z104:Nat:=210
abbrev n_Z14:Nat:=217
abbrev n_Z79:Nat:=218
abbrev n_Z89:Nat:=219
abbrev n_Z111:Nat:=220
abbrev n_Z107:Nat:=221
abbrev n_Z73:Nat:=222
abbrev n_Z25:Nat:=223
abbrev n_Z18:Nat:=226
abbrev n_Z12:Nat:=229
abbrev n_Z17:Nat:=230
abbrev n_Z48:Nat:=231
abbrev n_Z19:Nat:=232
abbrev n_Z10:Nat:=233
abbrev n_Z28:Nat:=234
abbrev n_Z62:Nat:=235
abbrev n_Z45:Nat:=236
abbrev n_Z43:Nat:=241
abbrev n_Z20:Nat:=244
abbrev n_Z88:Nat:=246
abbrev n_Z94:Nat:=247
abbrev n_Z81:Nat:=248
abbrev n_Z90:Nat:=250
abbrev n_Z93:Nat:=251
abbrev n_Z58:Nat:=253
abbrev n_Z41:Nat:=254
abbrev n_Z38:Nat:=258
abbrev n_Z76:Nat:=266
abbrev n_Z61:Nat:=272
abbrev n_Z44:Nat:=273
abbrev n_Z75:Nat:=274
abbrev n_Z84:Nat:=275
abbrev n_Z54:Nat:=285
abbrev n_Z108:Nat:=294
abbrev n_Z29:Nat:=301
abbrev n_Z13:Nat:=302
abbrev n_Z30:Nat:=303
abbrev n_Z2:Nat:=304
abbrev n_Z0:Nat:=305
abbrev n_Z46:Nat:=306
abbrev n_Z55:Nat:=307
abbrev n_Z99:Nat:=312
abbrev n_Z74:Nat:=313
abbrev n_Z110:Nat:=323
abbrev n_Z3:Nat:=327
abbrev n_Z1:Nat:=328
abbrev n_Z4:Nat:=351
abbrev F_Z39:Func:=Tryz.f8
abbrev F_Z40:Func:=Tryz.f24
abbrev F_Z64:Func:=Tryz.f48
abbrev F_Z5:Func:=Tryz.f49
abbrev F_Z7:Func:=Tryz.f50
abbrev F_Z66:Func:=Tryz.f51
abbrev F_Z8:Func:=Tryz.f52
abbrev F_Z69:Func:=Tryz.f53
abbrev F_Z6:Func:=Tryz.f54
abbrev F_Z65:Func:=Tryz.f55
abbrev F_Z63:Func:=Tryz.f56
abbrev F_Z67:Func:=Tryz.f57
abbrev F_Z68:Func:=Tryz.f58
abbrev F_Z71:Func:=Tryz.f78
abbrev F_Z91:Func:=Tryz.f83
abbrev F_Z80:Func:=Tryz.f85
abbrev F_Z105:Func:=Tryz.f97
abbrev F_Z106:Func:=Tryz.f98
abbrev F_Z103:Func:=Tryz.f99
abbrev F_Z16:Func:=Tryz.f100
abbrev F_Z15:Func:=Tryz.f101
abbrev F_Z33:Func:=Tryz.f103
abbrev F_Z101:Func:=Tryz.f106
abbrev F_Z9:Func:=Tryz.f108
abbrev F_Z27:Func:=Tryz.f109
abbrev F_Z22:Func:=Tryz.f110
abbrev F_Z11:Func:=Tryz.f113
abbrev F_Z36:Func:=Tryz.f114
abbrev F_Z98:Func:=Tryz.f120
abbrev F_Z70:Func:=Tryz.f121
abbrev F_Z92:Func:=Tryz.f123
abbrev F_Z97:Func:=Tryz.f125
abbrev F_Z32:Func:=Tryz.f128
abbrev F_Z51:Func:=Tryz.f129
abbrev F_Z24:Func:=Tryz.f132
abbrev F_Z60:Func:=Tryz.f133
abbrev F_Z37:Func:=Tryz.f137
abbrev F_Z109:Func:=Tryz.f152
abbrev F_Z31:Func:=Tryz.f153
abbrev F_Z23:Func:=Tryz.f154
abbrev F_Z53:Func:=Tryz.f155
abbrev F_Z100:Func:=Tryz.f156
abbrev F_Z96:Func:=Tryz.f157
abbrev F_Z102:Func:=Tryz.f158
abbrev F_Z82:Func:=Tryz.f159
abbrev F_Z86:Func:=Tryz.f160
abbrev F_Z85:Func:=Tryz.f161
abbrev F_Z47:Func:=Tryz.f175
abbrev F_Z77:Func:=Tryz.f179
abbrev F_Z34:Func:=Tryz.f181
abbrev F_Z35:Func:=Tryz.f182
abbrev F_Z26:Func:=Tryz.f192
abbrev F_Z72:Func:=Tryz.f197
abbrev F_Z78:Func:=Tryz.f198
abbrev F_Z83:Func:=Tryz.f205
abbrev F_Z87:Func:=Tryz.f206
abbrev F_Z95:Func:=Tryz.f207
abbrev F_Z104:Func:=Tryz.f210
abbrev F_Z14:Func:=Tryz.f217
abbrev F_Z79:Func:=Tryz.f218
abbrev F_Z89:Func:=Tryz.f219
abbrev F_Z111:Func:=Tryz.f220
abbrev F_Z107:Func:=Tryz.f221
abbrev F_Z73:Func:=Tryz.f222
abbrev F_Z25:Func:=Tryz.f223
abbrev F_Z18:Func:=Tryz.f226
abbrev F_Z12:Func:=Tryz.f229
abbrev F_Z17:Func:=Tryz.f230
abbrev F_Z48:Func:=Tryz.f231
abbrev F_Z19:Func:=Tryz.f232
abbrev F_Z10:Func:=Tryz.f233
abbrev F_Z28:Func:=Tryz.f234
abbrev F_Z62:Func:=Tryz.f235
abbrev F_Z45:Func:=Tryz.f236
abbrev F_Z43:Func:=Tryz.f241
abbrev F_Z20:Func:=Tryz.f244
abbrev F_Z88:Func:=Tryz.f246
abbrev F_Z94:Func:=Tryz.f247
abbrev F_Z81:Func:=Tryz.f248
abbrev F_Z90:Func:=Tryz.f250
abbrev F_Z93:Func:=Tryz.f251
abbrev F_Z58:Func:=Tryz.f253
abbrev F_Z41:Func:=Tryz.f254
abbrev F_Z38:Func:=Tryz.f258
abbrev F_Z76:Func:=Tryz.f266
abbrev F_Z61:Func:=Tryz.f272
abbrev F_Z44:Func:=Tryz.f273
abbrev F_Z75:Func:=Tryz.f274
abbrev F_Z84:Func:=Tryz.f275
abbrev F_Z54:Func:=Tryz.f285
abbrev F_Z108:Func:=Tryz.f294
abbrev F_Z29:Func:=Tryz.f301
abbrev F_Z13:Func:=Tryz.f302
abbrev F_Z30:Func:=Tryz.f303
abbrev F_Z2:Func:=Tryz.f304
abbrev F_Z0:Func:=Tryz.f305
abbrev F_Z46:Func:=Tryz.f306
abbrev F_Z55:Func:=Tryz.f307
abbrev F_Z99:Func:=Tryz.f312
abbrev F_Z74:Func:=Tryz.f313
abbrev F_Z110:Func:=Tryz.f323
abbrev F_Z3:Func:=Tryz.f327
abbrev F_Z1:Func:=Tryz.f328
abbrev F_Z4:Func:=Tryz.f351
abbrev o_Z39:Ty:=(.cons .bool .nil)
def sg_Z39:Sig:=⟨[(false,1)],[],o_Z39,[(false,1)],[],[]⟩
abbrev o_Z40:Ty:=(.cons .bool .nil)
def sg_Z40:Sig:=⟨[(false,1)],[],o_Z40,[(false,1)],[],[]⟩
abbrev o_Z64:Ty:=(.cons yK (.cons yK (.cons yL (.cons yI (.cons yI .nil)))))
def sg_Z64:Sig:=⟨[(false,1)],[],o_Z64,[(true,1),(true,1),(false,1),(false,1),(false,1)],[.imm,.imm,.deep,.imm,.imm],[]⟩
abbrev o_Z5:Ty:=(.cons yI (.cons yI (.cons yI (.cons yL (.cons yI .nil)))))
def sg_Z5:Sig:=⟨[(true,1),(true,1),(false,1),(false,1),(false,1)],[],o_Z5,[(true,4),(false,1)],[.imm,.imm,.imm,.deep,.imm],[]⟩
abbrev o_Z7:Ty:=(.cons .bool .nil)
def sg_Z7:Sig:=⟨[(true,1),(true,1),(false,1)],[],o_Z7,[(false,1)],[],[]⟩
abbrev o_Z66:Ty:=(.cons .bool .nil)
def sg_Z66:Sig:=⟨[(true,1),(true,1),(false,1)],[],o_Z66,[(false,1)],[],[]⟩
abbrev o_Z8:Ty:=(.cons yK (.cons yI .nil))
def sg_Z8:Sig:=⟨[(true,1),(true,1),(false,1)],[],o_Z8,[(true,1),(false,1)],[.deep,.imm],[]⟩
abbrev o_Z69:Ty:=(.cons .bool .nil)
def sg_Z69:Sig:=⟨[(true,1)],[],o_Z69,[(false,1)],[],[]⟩
abbrev o_Z6:Ty:=(.cons yL (.cons yI .nil))
def sg_Z6:Sig:=⟨[(true,1),(true,1),(false,1),(false,1)],[],o_Z6,[(false,1),(false,1)],[.deep,.imm],[]⟩
abbrev o_Z65:Ty:=(.cons yI (.cons yI .nil))
def sg_Z65:Sig:=⟨[(true,1),(false,1)],[],o_Z65,[(false,1),(false,1)],[],[]⟩
abbrev o_Z63:Ty:=(.cons yI (.cons yI (.cons yI (.cons yL (.cons yI .nil)))))
def sg_Z63:Sig:=⟨[(true,1),(false,1),(false,1)],[],o_Z63,[(true,4),(false,1)],[.imm,.imm,.imm,.deep,.imm],[]⟩
abbrev o_Z67:Ty:=(.cons yI (.cons yI (.cons yI (.cons yL (.cons yI .nil)))))
def sg_Z67:Sig:=⟨[(true,4),(true,4)],[],o_Z67,[(true,4),(false,1)],[.imm,.imm,.imm,.deep,.imm],[]⟩
abbrev o_Z68:Ty:=(.cons .bool .nil)
def sg_Z68:Sig:=⟨[(true,4),(true,4)],[],o_Z68,[(false,1)],[],[]⟩
abbrev o_Z71:Ty:=(.cons (.ptr yR) .nil)
def sg_Z71:Sig:=⟨[(false,1)],[],o_Z71,[(false,1)],[.bx],[]⟩
abbrev o_Z91:Ty:=(.cons .bool .nil)
def sg_Z91:Sig:=⟨[(false,1)],[],o_Z91,[(false,1)],[],[]⟩
abbrev o_Z80:Ty:=(.cons yI (.cons (.ptr yR) .nil))
def sg_Z80:Sig:=⟨[(false,1),(false,1)],[.iob,.imm],o_Z80,[(false,1)],[],[(.ptr yR)]⟩
abbrev o_Z105:Ty:=(.cons yK (.cons yK (.cons yL (.cons (.ptr yR) .nil))))
def sg_Z105:Sig:=⟨[(false,1)],[.iob],o_Z105,[(true,1),(true,1),(false,1)],[.imm,.imm,.deep],[(.ptr yR)]⟩
abbrev o_Z106:Ty:=(.cons yI (.cons (.ptr yR) .nil))
def sg_Z106:Sig:=⟨[(false,1)],[.iob],o_Z106,[(false,1)],[],[(.ptr yR)]⟩
abbrev o_Z103:Ty:=(.cons yI (.cons (.ptr yR) .nil))
def sg_Z103:Sig:=⟨[(false,1)],[.iob],o_Z103,[(false,1)],[],[(.ptr yR)]⟩
abbrev o_Z16:Ty:=(.cons yI .nil)
def sg_Z16:Sig:=⟨[(true,1),(true,1),(false,1),(false,1),(false,1),(false,1)],[],o_Z16,[(false,1)],[],[]⟩
abbrev o_Z15:Ty:=yM
def sg_Z15:Sig:=⟨[(true,1),(true,1),(false,1),(false,1),(false,1)],[],o_Z15,[(true,4)],[.imm,.imm,.imm,.deep],[]⟩
abbrev o_Z33:Ty:=(.cons yI .nil)
def sg_Z33:Sig:=⟨[(false,1)],[],o_Z33,[(false,1)],[],[]⟩
abbrev o_Z101:Ty:=(.cons yI .nil)
def sg_Z101:Sig:=⟨[(false,1),(false,1),(false,1)],[],o_Z101,[(false,1)],[],[(.ptr yC)]⟩
abbrev o_Z9:Ty:=(.cons .bool .nil)
def sg_Z9:Sig:=⟨[(true,1)],[],o_Z9,[(false,1)],[],[]⟩
abbrev o_Z27:Ty:=(.cons .bool .nil)
def sg_Z27:Sig:=⟨[(true,1),(true,1),(false,1)],[],o_Z27,[(false,1)],[],[]⟩
abbrev o_Z22:Ty:=(.cons yL .nil)
def sg_Z22:Sig:=⟨[(true,1),(false,1),(false,1)],[],o_Z22,[(false,1)],[.deep],[]⟩
abbrev o_Z11:Ty:=(.cons .bool .nil)
def sg_Z11:Sig:=⟨[(false,1)],[],o_Z11,[(false,1)],[],[]⟩
abbrev o_Z36:Ty:=(.cons .bool .nil)
def sg_Z36:Sig:=⟨[(false,1),(false,1),(false,1)],[],o_Z36,[(false,1)],[],[]⟩
abbrev o_Z98:Ty:=(.cons .bool .nil)
def sg_Z98:Sig:=⟨[(false,1)],[],o_Z98,[(false,1)],[],[(.ptr yC)]⟩
abbrev o_Z70:Ty:=(.cons .bool .nil)
def sg_Z70:Sig:=⟨[(false,1)],[],o_Z70,[(false,1)],[],[]⟩
abbrev o_Z92:Ty:=(.cons yK (.cons (.ptr yR) .nil))
def sg_Z92:Sig:=⟨[(false,1)],[.iob],o_Z92,[(true,1)],[.own],[(.ptr yR)]⟩
abbrev o_Z97:Ty:=(.cons yL .nil)
def sg_Z97:Sig:=⟨[(false,1),(false,1)],[],o_Z97,[(false,1)],[.deep],[(.ptr yC)]⟩
abbrev o_Z32:Ty:=(.cons yL .nil)
def sg_Z32:Sig:=⟨[(true,1),(false,1)],[],o_Z32,[(false,1)],[.deep],[]⟩
abbrev o_Z51:Ty:=(.cons .bool .nil)
def sg_Z51:Sig:=⟨[(false,1),(false,1)],[],o_Z51,[(false,1)],[],[]⟩
abbrev o_Z24:Ty:=(.cons yI .nil)
def sg_Z24:Sig:=⟨[(true,1),(false,1)],[],o_Z24,[(false,1)],[],[]⟩
abbrev o_Z60:Ty:=(.cons yI .nil)
def sg_Z60:Sig:=⟨[(false,1),(false,1)],[],o_Z60,[(false,1)],[],[]⟩
abbrev o_Z37:Ty:=yM
def sg_Z37:Sig:=⟨[(false,1),(false,1),(false,1)],[],o_Z37,[(true,4)],[.imm,.imm,.imm,.deep],[]⟩
abbrev o_Z109:Ty:=(.cons .bool .nil)
def sg_Z109:Sig:=⟨[(false,1),(false,1),(false,1)],[],o_Z109,[(false,1)],[],[(.ptr yC),(.ptr yC)]⟩
abbrev o_Z31:Ty:=(.cons yI .nil)
def sg_Z31:Sig:=⟨[(true,1),(true,1),(false,1)],[],o_Z31,[(false,1)],[],[]⟩
abbrev o_Z23:Ty:=yC
def sg_Z23:Sig:=⟨[(false,1)],[],o_Z23,[(true,1)],[.deep],[]⟩
abbrev o_Z53:Ty:=(.cons .bool .nil)
def sg_Z53:Sig:=⟨[(false,1),(false,1)],[],o_Z53,[(false,1)],[],[]⟩
abbrev o_Z100:Ty:=(.cons .bool .nil)
def sg_Z100:Sig:=⟨[(false,1)],[],o_Z100,[(false,1)],[],[]⟩
abbrev o_Z96:Ty:=(.cons yI .nil)
def sg_Z96:Sig:=⟨[(false,1),(false,1)],[],o_Z96,[(false,1)],[],[(.ptr yC)]⟩
abbrev o_Z102:Ty:=yM
def sg_Z102:Sig:=⟨[(false,1),(false,1),(false,1)],[],o_Z102,[(true,4)],[.imm,.imm,.imm,.deep],[(.ptr yC)]⟩
abbrev o_Z82:Ty:=(.cons .bool .nil)
def sg_Z82:Sig:=⟨[(false,1),(false,1)],[],o_Z82,[(false,1)],[],[(.ptr yM),(.ptr yM)]⟩
abbrev o_Z86:Ty:=yM
def sg_Z86:Sig:=⟨[(false,1),(false,1)],[],o_Z86,[(true,4)],[.imm,.imm,.imm,.deep],[(.ptr yM),(.ptr yM)]⟩
abbrev o_Z85:Ty:=(.cons .bool .nil)
def sg_Z85:Sig:=⟨[(false,1),(false,1)],[],o_Z85,[(false,1)],[],[(.ptr yM),(.ptr yM)]⟩
abbrev o_Z47:Ty:=(.cons yL .nil)
def sg_Z47:Sig:=⟨[(false,1)],[],o_Z47,[(false,1)],[.deep],[]⟩
abbrev o_Z77:Ty:=(.cons yI (.cons (.ptr yR) .nil))
def sg_Z77:Sig:=⟨[(false,1),(false,1)],[.iob,.imm],o_Z77,[(false,1)],[],[(.ptr yR)]⟩
abbrev o_Z34:Ty:=(.cons yI .nil)
def sg_Z34:Sig:=⟨[(false,1)],[],o_Z34,[(false,1)],[],[]⟩
abbrev o_Z35:Ty:=(.cons yL .nil)
def sg_Z35:Sig:=⟨[(true,1)],[],o_Z35,[(false,1)],[.deep],[]⟩
abbrev o_Z26:Ty:=(.cons .bool .nil)
def sg_Z26:Sig:=⟨[(false,1)],[],o_Z26,[(false,1)],[],[]⟩
abbrev o_Z72:Ty:=(.cons .bool .nil)
def sg_Z72:Sig:=⟨[(false,1),(false,1),(false,1)],[],o_Z72,[(false,1)],[],[]⟩
abbrev o_Z78:Ty:=(.cons yI (.cons (.ptr yR) .nil))
def sg_Z78:Sig:=⟨[(false,1)],[.iob],o_Z78,[(false,1)],[],[(.ptr yR)]⟩
abbrev o_Z83:Ty:=(.cons .bool .nil)
def sg_Z83:Sig:=⟨[(false,1),(false,1),(false,1)],[],o_Z83,[(false,1)],[],[]⟩
abbrev o_Z87:Ty:=yM
def sg_Z87:Sig:=⟨[(false,1),(false,1),(false,1)],[],o_Z87,[(true,4)],[.imm,.imm,.imm,.deep],[]⟩
abbrev o_Z95:Ty:=(.cons yL .nil)
def sg_Z95:Sig:=⟨[(false,1),(false,1)],[],o_Z95,[(false,1)],[.deep],[(.ptr yC)]⟩
abbrev o_Z104:Ty:=(.cons yI .nil)
def sg_Z104:Sig:=⟨[(false,1),(false,1)],[],o_Z104,[(false,1)],[],[]⟩
abbrev o_Z14:Ty:=(.cons yI .nil)
def sg_Z14:Sig:=⟨[(false,1),(false,1)],[],o_Z14,[(false,1)],[],[]⟩
abbrev o_Z79:Ty:=(.cons .bool (.cons (.ptr yR) .nil))
def sg_Z79:Sig:=⟨[(false,1),(false,1)],[.iob,.imm],o_Z79,[(false,1)],[],[(.ptr yR)]⟩
abbrev o_Z89:Ty:=(.cons yK (.cons (.ptr yR) .nil))
def sg_Z89:Sig:=⟨[(false,1)],[.iob],o_Z89,[(true,1)],[],[(.ptr yR)]⟩
abbrev o_Z111:Ty:=(.cons yL .nil)
def sg_Z111:Sig:=⟨[(false,1)],[],o_Z111,[(false,1)],[.deep],[(.ptr yC)]⟩
abbrev o_Z107:Ty:=(.cons .bool .nil)
def sg_Z107:Sig:=⟨[(false,1),(false,1),(false,1),(false,1)],[],o_Z107,[(false,1)],[],[(.ptr yC),(.ptr yC)]⟩
abbrev o_Z73:Ty:=(.cons yL .nil)
def sg_Z73:Sig:=⟨[(false,1)],[],o_Z73,[(false,1)],[.deep],[]⟩
abbrev o_Z25:Ty:=(.cons yI .nil)
def sg_Z25:Sig:=⟨[(true,1),(false,1),(false,1)],[],o_Z25,[(false,1)],[],[]⟩
abbrev o_Z18:Ty:=yC
def sg_Z18:Sig:=⟨[(false,1)],[],o_Z18,[(false,1)],[.deep],[]⟩
abbrev o_Z12:Ty:=(.cons .bool .nil)
def sg_Z12:Sig:=⟨[(false,1)],[],o_Z12,[(false,1)],[],[]⟩
abbrev o_Z17:Ty:=(.cons yI .nil)
def sg_Z17:Sig:=⟨[(false,1),(false,1)],[],o_Z17,[(false,1)],[],[]⟩
abbrev o_Z48:Ty:=(.cons .bool .nil)
def sg_Z48:Sig:=⟨[(false,1),(false,1)],[],o_Z48,[(false,1)],[],[]⟩
abbrev o_Z19:Ty:=yC
def sg_Z19:Sig:=⟨[(false,1)],[],o_Z19,[(false,1)],[.deep],[]⟩
abbrev o_Z10:Ty:=(.cons .bool .nil)
def sg_Z10:Sig:=⟨[(false,1),(false,1),(false,1)],[],o_Z10,[(false,1)],[],[.nil,(.ptr yC),(.ptr (.cons yI .nil))]⟩
abbrev o_Z28:Ty:=(.cons .bool .nil)
def sg_Z28:Sig:=⟨[(false,1),(false,1),(false,1),(false,1)],[],o_Z28,[(false,1)],[],[.nil,(.ptr yC),(.ptr yC),(.ptr (.cons yL .nil))]⟩
abbrev o_Z62:Ty:=(.cons yL .nil)
def sg_Z62:Sig:=⟨[(false,1)],[.io true],o_Z62,[],[],[]⟩
abbrev o_Z45:Ty:=(.cons yL .nil)
def sg_Z45:Sig:=⟨[(false,1)],[.take true],o_Z45,[(false,1)],[.deep],[]⟩
abbrev o_Z43:Ty:=(.cons yL .nil)
def sg_Z43:Sig:=⟨[(false,1)],[],o_Z43,[(false,1)],[.deep],[]⟩
abbrev o_Z20:Ty:=yM
def sg_Z20:Sig:=⟨[(false,1),(false,1),(false,1),(false,1)],[],o_Z20,[(true,4)],[.imm,.imm,.imm,.deep],[]⟩
abbrev o_Z88:Ty:=(.cons .bool .nil)
def sg_Z88:Sig:=⟨[(false,1),(false,1)],[],o_Z88,[(false,1)],[],[]⟩
abbrev o_Z94:Ty:=(.cons yL .nil)
def sg_Z94:Sig:=⟨[(false,1),(false,1)],[],o_Z94,[(false,1)],[.deep],[]⟩
abbrev o_Z81:Ty:=(.cons .bool .nil)
def sg_Z81:Sig:=⟨[(false,1)],[],o_Z81,[(false,1)],[],[]⟩
abbrev o_Z90:Ty:=yC
def sg_Z90:Sig:=⟨[(false,1)],[],o_Z90,[(true,1)],[.own],[]⟩
abbrev o_Z93:Ty:=(.cons yL (.cons (.ptr yR) .nil))
def sg_Z93:Sig:=⟨[(false,1),(false,1),(false,1)],[.iob,.imm,.imm],o_Z93,[(false,1)],[],[(.ptr yR)]⟩
abbrev o_Z58:Ty:=(.cons yI .nil)
def sg_Z58:Sig:=⟨[(false,1),(false,1)],[],o_Z58,[(false,1)],[],[]⟩
abbrev o_Z41:Ty:=(.cons yI (.cons .bool .nil))
def sg_Z41:Sig:=⟨[(false,1),(false,1),(false,1)],[],o_Z41,[(false,1),(false,1)],[],[]⟩
abbrev o_Z38:Ty:=(.cons yI .nil)
def sg_Z38:Sig:=⟨[(false,1),(false,1)],[],o_Z38,[(false,1)],[],[]⟩
abbrev o_Z76:Ty:=(.cons .bool .nil)
def sg_Z76:Sig:=⟨[(false,1),(false,1)],[],o_Z76,[(false,1)],[],[]⟩
abbrev o_Z61:Ty:=yC
def sg_Z61:Sig:=⟨[(false,1),(false,1)],[.io true,.imm],o_Z61,[],[],[]⟩
abbrev o_Z44:Ty:=yC
def sg_Z44:Sig:=⟨[(false,1),(false,1)],[.take true,.imm],o_Z44,[(false,1)],[.deep],[]⟩
abbrev o_Z75:Ty:=(.cons .bool .nil)
def sg_Z75:Sig:=⟨[(false,1),(false,1),(false,1)],[],o_Z75,[(false,1)],[],[]⟩
abbrev o_Z84:Ty:=(.cons .bool .nil)
def sg_Z84:Sig:=⟨[(false,1)],[],o_Z84,[(false,1)],[],[(.ptr yM)]⟩
abbrev o_Z54:Ty:=(.cons yL .nil)
def sg_Z54:Sig:=⟨[(false,1),(false,1)],[.take true,.imm],o_Z54,[(false,1)],[.deep],[]⟩
abbrev o_Z108:Ty:=(.cons yL (.cons .bool .nil))
def sg_Z108:Sig:=⟨[(false,1),(false,1),(false,1)],[],o_Z108,[(false,1),(false,1)],[],[]⟩
abbrev o_Z29:Ty:=(.cons .bool .nil)
def sg_Z29:Sig:=⟨[(false,1)],[],o_Z29,[(false,1)],[],[]⟩
abbrev o_Z13:Ty:=(.cons .bool .nil)
def sg_Z13:Sig:=⟨[(false,1)],[],o_Z13,[(false,1)],[],[]⟩
abbrev o_Z30:Ty:=(.cons .bool .nil)
def sg_Z30:Sig:=⟨[(false,1)],[],o_Z30,[(false,1)],[],[]⟩
abbrev o_Z2:Ty:=(.cons yI .nil)
def sg_Z2:Sig:=⟨[(false,1)],[],o_Z2,[(false,1)],[],[]⟩
abbrev o_Z0:Ty:=(.cons yI .nil)
def sg_Z0:Sig:=⟨[(false,1),(false,1)],[],o_Z0,[(false,1)],[],[]⟩
abbrev o_Z46:Ty:=(.cons yI .nil)
def sg_Z46:Sig:=⟨[(false,1),(false,1)],[],o_Z46,[(false,1)],[],[]⟩
abbrev o_Z55:Ty:=(.cons yI .nil)
def sg_Z55:Sig:=⟨[(false,1),(false,1)],[],o_Z55,[(false,1)],[],[]⟩
abbrev o_Z99:Ty:=(.cons (.ptr yC) .nil)
def sg_Z99:Sig:=⟨[(false,1),(false,1)],[.iobo 0,.imm],o_Z99,[],[],[(.ptr yC)]⟩
abbrev o_Z74:Ty:=(.cons yL .nil)
def sg_Z74:Sig:=⟨[(false,1),(false,1)],[],o_Z74,[(false,1)],[.deep],[]⟩
abbrev o_Z110:Ty:=(.cons yI .nil)
def sg_Z110:Sig:=⟨[(false,1),(false,1),(false,1)],[],o_Z110,[(false,1)],[],[]⟩
abbrev o_Z3:Ty:=(.cons .bool .nil)
def sg_Z3:Sig:=⟨[(false,1)],[],o_Z3,[(false,1)],[],[]⟩
abbrev o_Z1:Ty:=(.cons yI .nil)
def sg_Z1:Sig:=⟨[(false,1),(false,1)],[],o_Z1,[(false,1)],[],[]⟩
abbrev o_Z4:Ty:=(.cons .bool .nil)
def sg_Z4:Sig:=⟨[(false,1)],[],o_Z4,[(false,1)],[],[]⟩
def pol_Z39:Pol:=⟨198,[],[(12,⟨[3,4,5,6,7,8,9,10,12,13],[3,4,8,10],[],[],[],[],[]⟩)],[],[(1000081,⟨[3,4,5,6,7,8,9,10,81],[3,4,8,10],[],[],[],[],[]⟩),(1000129,⟨[3,4,5,6,7,8,129],[3,4,8],[],[],[],[],[]⟩),(1000163,⟨[8,18,19,20,21,22,23,163],[8,18,20,22],[],[],[],[],[]⟩)],[]⟩
def pol_Z40:Pol:=⟨7,[],[],[],[],[]⟩
def pol_Z64:Pol:=⟨31,[(13,[some 29]),(16,[none,none,some 30])],[],[],[],[]⟩
def pol_Z5:Pol:=⟨35,[(28,[none,none,none,some 34])],[],[],[],[]⟩
def pol_Z7:Pol:=⟨22,[],[],[],[],[]⟩
def pol_Z66:Pol:=⟨18,[],[],[],[],[]⟩
def pol_Z8:Pol:=⟨42,[(31,[some 40]),(36,[some 41])],[(6,⟨[2,3,6,9,21,22,23],[3,6,33],[(9,33,yL,true)],[],[],[],[]⟩)],[],[],[]⟩
def pol_Z69:Pol:=⟨5,[],[],[],[],[]⟩
def pol_Z6:Pol:=⟨56,[],[(8,⟨[2,3,4,5,11,29,30,31],[4,5,49],[(11,49,yI,true)],[],[],[],[]⟩)],[],[],[]⟩
def pol_Z65:Pol:=⟨21,[],[],[],[(1000013,⟨[1,2,13],[2],[],[],[],[],[]⟩)],[]⟩
def pol_Z63:Pol:=⟨23,[(18,[none,none,none,some 22])],[],[],[],[]⟩
def pol_Z67:Pol:=⟨32,[(22,[none,none,none,some 31])],[],[],[(1000020,⟨[2,3,4,20],[2,3,4],[],[],[],[],[]⟩)],[]⟩
def pol_Z68:Pol:=⟨14,[],[],[],[],[]⟩
def pol_Z71:Pol:=⟨7,[],[],[],[],[]⟩
def pol_Z91:Pol:=⟨6,[],[],[],[],[]⟩
def pol_Z80:Pol:=⟨22,[],[],[],[],[]⟩
def pol_Z105:Pol:=⟨92,[(15,[some 91]),(60,[some 90])],[(11,⟨[0,2,3,5,6,7,8,9,10],[2,3,5,6,27,89,91],[],[],[],[],[]⟩),(15,⟨[0,2,3,5,6,7,8,9,10,11,12],[2,3,5,6,27,89,91],[],[],[],[],[]⟩)],[],[(5,⟨[0,2,3,5,6],[2,3,5,6,89,91],[],[],[91],[],[(6,0)]⟩),(7,⟨[0,2,3,5,6],[2,3,5,6,89,91],[],[],[91],[],[(6,0)]⟩),(26,⟨[2,3,5,6,9],[2,3,5,6,27,89,91],[],[],[],[],[]⟩),(1000036,⟨[0,2,3,5,6,7,8,9,10,36],[2,3,5,6,27,89,91],[],[],[],[],[]⟩)],[]⟩
def pol_Z106:Pol:=⟨7,[],[],[],[],[]⟩
def pol_Z103:Pol:=⟨7,[],[],[],[],[]⟩
def pol_Z16:Pol:=⟨56,[],[(9,⟨[3,5,6,7,14],[6,7],[],[],[],[],[]⟩)],[],[(1000049,⟨[3,5,6,7,14,49],[6,7],[],[],[],[],[]⟩)],[]⟩
def pol_Z15:Pol:=⟨80,[(30,[none,none,none,some 79])],[(4,⟨[2,4,5,6,10,11,12,13,31,32,33],[5,6,10,13,79],[],[],[],[],[]⟩)],[],[],[]⟩
def pol_Z33:Pol:=⟨6,[],[],[],[],[]⟩
def pol_Z101:Pol:=⟨42,[],[],[],[(1000014,⟨[0,1,14],[],[],[],[],[],[]⟩),(1000038,⟨[38],[],[],[],[],[],[]⟩)],[]⟩
def pol_Z9:Pol:=⟨41,[],[(2,⟨[1,6,7,8],[1],[],[],[1],[],[]⟩)],[],[(1000030,⟨[1,3,4,6,7,8,30],[1,3],[],[],[],[],[]⟩)],[]⟩
def pol_Z27:Pol:=⟨21,[],[],[],[],[]⟩
def pol_Z22:Pol:=⟨37,[(32,[some 36])],[(4,⟨[1,7,8,13,14,15],[27],[(8,27,yI,true)],[],[],[],[]⟩)],[],[],[]⟩
def pol_Z11:Pol:=⟨19,[],[(4,⟨[0,3],[],[],[],[],[],[]⟩)],[],[],[]⟩
def pol_Z36:Pol:=⟨18,[],[],[],[],[]⟩
def pol_Z98:Pol:=⟨66,[],[(4,⟨[0,3],[],[],[],[],[],[]⟩),(10,⟨[0,3,4,5],[],[],[],[],[],[]⟩)],[],[(1000047,⟨[0,3,4,47],[],[],[],[],[],[]⟩),(1000056,⟨[0,3,4,5,56],[],[],[],[],[],[]⟩)],[]⟩
def pol_Z70:Pol:=⟨6,[],[],[],[],[]⟩
def pol_Z92:Pol:=⟨52,[(15,[some 49]),(23,[some 50]),(47,[some 51])],[(9,⟨[0,2,3,4,5],[2,24,48],[],[],[],[24],[]⟩)],[],[(14,⟨[2,3],[2,24,48],[],[],[],[],[]⟩)],[]⟩
def pol_Z97:Pol:=⟨35,[],[(3,⟨[0,1,5,6],[7],[],[],[],[],[]⟩)],[],[],[]⟩
def pol_Z32:Pol:=⟨29,[],[(3,⟨[1,5,9,10,11],[24],[(5,24,yI,true)],[],[],[],[]⟩)],[],[],[]⟩
def pol_Z51:Pol:=⟨11,[],[],[],[],[]⟩
def pol_Z24:Pol:=⟨19,[],[],[],[],[]⟩
def pol_Z60:Pol:=⟨21,[],[(2,⟨[0,1,7,8],[],[],[],[],[],[]⟩)],[],[],[]⟩
def pol_Z37:Pol:=⟨15,[(10,[none,none,none,some 14])],[],[],[],[]⟩
def pol_Z109:Pol:=⟨38,[],[(3,⟨[0,1,2,7,8],[],[],[],[],[],[]⟩)],[],[],[]⟩
def pol_Z31:Pol:=⟨25,[],[],[],[(1000007,⟨[2,3,4,7],[3,4],[],[],[],[],[]⟩)],[]⟩
def pol_Z23:Pol:=⟨14,[(5,[some 12]),(9,[some 13])],[],[],[],[]⟩
def pol_Z53:Pol:=⟨28,[],[(4,⟨[0,1,12,13],[],[],[],[],[],[]⟩)],[],[],[]⟩
def pol_Z100:Pol:=⟨11,[],[],[],[],[]⟩
def pol_Z96:Pol:=⟨27,[],[(2,⟨[0,1,5],[],[],[],[],[],[]⟩)],[],[],[]⟩
def pol_Z102:Pol:=⟨72,[(25,[none,none,none,some 71])],[(5,⟨[0,1,2,6,7,8,9,10],[6,9,71],[],[],[],[],[]⟩),(9,⟨[0,1,2,6,7,8,9,10,11,12],[6,9,71],[],[],[],[],[]⟩)],[],[(1000033,⟨[0,1,2,6,7,8,9,10,33],[6,9,71],[],[],[],[],[]⟩)],[]⟩
def pol_Z82:Pol:=⟨13,[],[],[],[],[]⟩
def pol_Z86:Pol:=⟨99,[(22,[none,none,none,some 98])],[(3,⟨[0,1,4,5,6],[4,5,98],[],[],[],[],[]⟩),(6,⟨[0,1,4,5,6,7],[4,5,98],[],[],[],[],[]⟩),(10,⟨[0,1,4,5,6,7,8,9],[4,5,98],[],[],[],[],[]⟩)],[],[(2,⟨[0,1,4,5],[4,5,98],[],[],[],[],[]⟩)],[]⟩
def pol_Z85:Pol:=⟨76,[],[(4,⟨[0,1,5],[],[],[],[],[],[]⟩)],[],[(1000049,⟨[0,1,49],[],[],[],[],[],[]⟩)],[]⟩
def pol_Z47:Pol:=⟨38,[(24,[some 37])],[(3,⟨[0,3,9,10,11],[],[],[],[],[],[]⟩),(11,⟨[6,25,26,27],[37],[],[],[],[],[]⟩)],[],[],[]⟩
def pol_Z77:Pol:=⟨14,[],[],[],[],[]⟩
def pol_Z34:Pol:=⟨6,[],[],[],[],[]⟩
def pol_Z35:Pol:=⟨25,[],[(3,⟨[3,7,8,9],[21],[(3,21,yI,true)],[],[],[],[]⟩)],[],[],[]⟩
def pol_Z26:Pol:=⟨6,[],[],[],[],[]⟩
def pol_Z72:Pol:=⟨18,[],[],[],[],[]⟩
def pol_Z78:Pol:=⟨63,[],[],[],[(4,⟨[0,3],[62],[],[],[],[],[]⟩)],[]⟩
def pol_Z83:Pol:=⟨29,[],[(2,⟨[0,1,2,7],[],[],[],[],[],[]⟩)],[],[],[]⟩
def pol_Z87:Pol:=⟨18,[],[],[],[],[]⟩
def pol_Z95:Pol:=⟨38,[],[(4,⟨[0,5,6,7],[15],[],[],[],[],[]⟩)],[],[(1000024,⟨[0,5,6,7,24],[15],[],[],[],[],[]⟩)],[]⟩
def pol_Z104:Pol:=⟨14,[],[],[],[],[]⟩
def pol_Z14:Pol:=⟨12,[],[],[],[],[]⟩
def pol_Z79:Pol:=⟨11,[],[],[],[],[]⟩
def pol_Z89:Pol:=⟨59,[(6,[some 58])],[],[],[(15,⟨[2,3],[2,3,57],[],[],[],[],[(3,0)]⟩)],[]⟩
def pol_Z111:Pol:=⟨38,[],[(3,⟨[0,3,4],[5],[],[],[],[],[]⟩)],[],[],[]⟩
def pol_Z107:Pol:=⟨45,[],[(2,⟨[0,1,2,3,9],[],[],[],[],[],[]⟩)],[],[(1000040,⟨[0,1,2,3,9,40],[],[],[],[],[],[]⟩)],[]⟩
def pol_Z73:Pol:=⟨7,[],[],[],[],[]⟩
def pol_Z25:Pol:=⟨50,[],[(3,⟨[1,2,3,7,12,13,14],[3],[],[],[],[],[]⟩),(6,⟨[1,2,3,7,9,12,13,14,21,22,23],[3],[],[],[],[],[]⟩)],[],[(1000041,⟨[1,2,3,7,9,12,13,14,21,22,23,41],[3],[],[],[],[],[]⟩)],[]⟩
def pol_Z18:Pol:=⟨21,[(14,[some 20])],[(3,⟨[3,6,7,8],[16],[(3,16,yL,true)],[],[],[],[]⟩)],[],[],[]⟩
def pol_Z12:Pol:=⟨21,[],[],[],[],[]⟩
def pol_Z17:Pol:=⟨17,[],[],[],[],[]⟩
def pol_Z48:Pol:=⟨11,[],[],[],[],[]⟩
def pol_Z19:Pol:=⟨29,[(22,[some 28])],[(3,⟨[0,3,6,7],[24],[(3,24,yL,true)],[],[],[],[]⟩)],[],[],[]⟩
def pol_Z10:Pol:=⟨16,[],[],[],[],[]⟩
def pol_Z28:Pol:=⟨17,[],[],[],[],[]⟩
def pol_Z43:Pol:=⟨9,[],[],[],[(1000004,⟨[0,4],[],[],[],[],[],[]⟩)],[]⟩
def pol_Z20:Pol:=⟨40,[],[(3,⟨[2,3,8,9,16,17],[8,9,31],[],[(9,3,31,yI,true)],[],[],[]⟩),(6,⟨[2,3,8,9,10,16,17,20,21],[8,9,31],[],[(9,3,31,yI,true)],[],[],[]⟩)],[],[],[]⟩
def pol_Z88:Pol:=⟨42,[],[(4,⟨[0,1,5],[],[],[],[],[],[]⟩)],[],[],[]⟩
def pol_Z94:Pol:=⟨19,[(9,[some 18])],[],[],[],[]⟩
def pol_Z81:Pol:=⟨19,[],[(4,⟨[0,3],[],[],[],[],[],[]⟩)],[],[],[]⟩
def pol_Z90:Pol:=⟨20,[],[(3,⟨[0,2,3,4],[2,3,5],[],[],[],[5],[]⟩)],[],[],[]⟩
def pol_Z93:Pol:=⟨27,[],[(3,⟨[0,1,7,8],[24],[],[],[],[],[(1000007,0)]⟩)],[],[],[]⟩
def pol_Z58:Pol:=⟨21,[],[(2,⟨[0,1,7,8],[],[],[],[],[],[]⟩)],[],[],[]⟩
def pol_Z41:Pol:=⟨52,[],[(3,⟨[0,1,2,8,9,10],[],[],[],[],[],[]⟩)],[],[],[]⟩
def pol_Z38:Pol:=⟨7,[],[],[],[],[]⟩
def pol_Z76:Pol:=⟨28,[],[(4,⟨[0,1,5],[],[],[],[],[],[]⟩)],[],[],[]⟩
def pol_Z75:Pol:=⟨41,[],[(2,⟨[0,1,2,7],[],[],[],[],[],[]⟩)],[],[(1000037,⟨[0,1,2,7,37],[],[],[],[],[],[]⟩)],[]⟩
def pol_Z84:Pol:=⟨43,[],[],[],[],[]⟩
def pol_Z108:Pol:=⟨34,[],[(3,⟨[0,1,2,8,9],[],[],[],[],[],[(1000008,0)]⟩)],[],[],[]⟩
def pol_Z29:Pol:=⟨21,[],[(2,⟨[0,3],[],[],[],[],[],[]⟩)],[],[],[]⟩
def pol_Z13:Pol:=⟨7,[],[],[],[],[]⟩
def pol_Z30:Pol:=⟨6,[],[],[],[],[]⟩
def pol_Z2:Pol:=⟨19,[],[(3,⟨[3,6,7,8],[],[],[],[],[],[]⟩)],[],[],[]⟩
def pol_Z0:Pol:=⟨22,[],[],[],[],[]⟩
def pol_Z46:Pol:=⟨38,[],[(2,⟨[0,1,9,10,11],[],[],[],[],[],[]⟩)],[],[],[]⟩
def pol_Z55:Pol:=⟨21,[],[(2,⟨[0,1,7,8],[],[],[],[],[],[]⟩)],[],[],[]⟩
def pol_Z99:Pol:=⟨76,[(57,[some 75])],[(2,⟨[0,1,4],[71,73],[],[],[],[],[]⟩),(6,⟨[0,1,5],[71,73],[],[],[],[],[]⟩)],[],[(1000019,⟨[0,1,4,19],[71,73],[],[],[],[],[]⟩),(1000044,⟨[0,1,5,44],[71,73],[],[],[],[],[]⟩)],[]⟩
def pol_Z74:Pol:=⟨51,[],[(4,⟨[0,1,5,6,7],[8],[],[],[],[],[]⟩)],[],[(10,⟨[0,1,5,6,7],[8],[],[],[],[],[]⟩),(1000024,⟨[0,1,5,6,7,24],[8],[],[],[],[],[]⟩)],[]⟩
def pol_Z110:Pol:=⟨27,[],[(2,⟨[0,1,2,7],[],[],[],[],[],[]⟩)],[],[],[]⟩
def pol_Z3:Pol:=⟨7,[],[],[],[],[]⟩
def pol_Z1:Pol:=⟨22,[],[],[],[],[]⟩
def pol_Z4:Pol:=⟨7,[],[],[],[],[]⟩
def sigL:List (Option Sig):=[none,none,none,none,none,none,none,none,some sg_Z39,none,none,none,none,none,none,none,none,none,none,none,none,none,none,none,some sg_Z40,none,none,none,none,none,none,none,none,none,none,none,none,none,none,none,none,none,none,none,none,none,none,none,some sg_Z64,some sg_Z5,some sg_Z7,some sg_Z66,some sg_Z8,some sg_Z69,some sg_Z6,some sg_Z65,some sg_Z63,some sg_Z67,some sg_Z68,none,none,none,none,none,none,none,none,none,none,none,none,none,none,none,none,none,none,none,some sg_Z71,none,none,none,none,some sg_Z91,none,some sg_Z80,none,none,none,none,none,none,none,none,none,none,none,some sg_Z105,some sg_Z106,some sg_Z103,some sg_Z16,some sg_Z15,none,some sg_Z33,none,none,some sg_Z101,none,some sg_Z9,some sg_Z27,some sg_Z22,none,none,some sg_Z11,some sg_Z36,none,none,none,none,none,some sg_Z98,some sg_Z70,none,some sg_Z92,none,some sg_Z97,none,none,some sg_Z32,some sg_Z51,none,none,some sg_Z24,some sg_Z60,none,none,none,some sg_Z37,none,none,none,none,none,none,none,none,none,none,none,none,none,none,some sg_Z109,some sg_Z31,some sg_Z23,some sg_Z53,some sg_Z100,some sg_Z96,some sg_Z102,some sg_Z82,some sg_Z86,some sg_Z85,none,none,none,none,none,none,none,none,none,none,none,none,none,some sg_Z47,none,none,none,some sg_Z77,none,some sg_Z34,some sg_Z35,none,none,none,none,none,none,none,none,none,some sg_Z26,none,none,none,none,some sg_Z72,some sg_Z78,none,none,none,none,none,none,some sg_Z83,some sg_Z87,some sg_Z95,none,none,some sg_Z104,none,none,none,none,none,none,some sg_Z14,some sg_Z79,some sg_Z89,some sg_Z111,some sg_Z107,some sg_Z73,some sg_Z25,none,none,some sg_Z18,none,none,some sg_Z12,some sg_Z17,some sg_Z48,some sg_Z19,some sg_Z10,some sg_Z28,some sg_Z62,some sg_Z45,none,none,none,none,some sg_Z43,none,none,some sg_Z20,none,some sg_Z88,some sg_Z94,some sg_Z81,none,some sg_Z90,some sg_Z93,none,some sg_Z58,some sg_Z41,none,none,none,some sg_Z38,none,none,none,none,none,none,none,some sg_Z76,none,none,none,none,none,some sg_Z61,some sg_Z44,some sg_Z75,some sg_Z84,none,none,none,none,none,none,none,none,none,some sg_Z54,none,none,none,none,none,none,none,none,some sg_Z108,none,none,none,none,none,none,some sg_Z29,some sg_Z13,some sg_Z30,some sg_Z2,some sg_Z0,some sg_Z46,some sg_Z55,none,none,none,none,some sg_Z99,some sg_Z74,none,none,none,none,none,none,none,none,none,some sg_Z110,none,none,none,some sg_Z3,some sg_Z1,none,none,none,none,none,none,none,none,none,none,none,none,none,none,none,none,none,none,none,none,none,none,some sg_Z4,none,none,none,none,none,none,none,none,none,none,none,none,none,none,none,none,none,none,none,none,none,none,none,none,none,none]
def fnL:List (Option (Func×Pol)):=[none,none,none,none,none,none,none,none,some (F_Z39,pol_Z39),none,none,none,none,none,none,none,none,none,none,none,none,none,none,none,some (F_Z40,pol_Z40),none,none,none,none,none,none,none,none,none,none,none,none,none,none,none,none,none,none,none,none,none,none,none,some (F_Z64,pol_Z64),some (F_Z5,pol_Z5),some (F_Z7,pol_Z7),some (F_Z66,pol_Z66),some (F_Z8,pol_Z8),some (F_Z69,pol_Z69),some (F_Z6,pol_Z6),some (F_Z65,pol_Z65),some (F_Z63,pol_Z63),some (F_Z67,pol_Z67),some (F_Z68,pol_Z68),none,none,none,none,none,none,none,none,none,none,none,none,none,none,none,none,none,none,none,some (F_Z71,pol_Z71),none,none,none,none,some (F_Z91,pol_Z91),none,some (F_Z80,pol_Z80),none,none,none,none,none,none,none,none,none,none,none,some (F_Z105,pol_Z105),some (F_Z106,pol_Z106),some (F_Z103,pol_Z103),some (F_Z16,pol_Z16),some (F_Z15,pol_Z15),none,some (F_Z33,pol_Z33),none,none,some (F_Z101,pol_Z101),none,some (F_Z9,pol_Z9),some (F_Z27,pol_Z27),some (F_Z22,pol_Z22),none,none,some (F_Z11,pol_Z11),some (F_Z36,pol_Z36),none,none,none,none,none,some (F_Z98,pol_Z98),some (F_Z70,pol_Z70),none,some (F_Z92,pol_Z92),none,some (F_Z97,pol_Z97),none,none,some (F_Z32,pol_Z32),some (F_Z51,pol_Z51),none,none,some (F_Z24,pol_Z24),some (F_Z60,pol_Z60),none,none,none,some (F_Z37,pol_Z37),none,none,none,none,none,none,none,none,none,none,none,none,none,none,some (F_Z109,pol_Z109),some (F_Z31,pol_Z31),some (F_Z23,pol_Z23),some (F_Z53,pol_Z53),some (F_Z100,pol_Z100),some (F_Z96,pol_Z96),some (F_Z102,pol_Z102),some (F_Z82,pol_Z82),some (F_Z86,pol_Z86),some (F_Z85,pol_Z85),none,none,none,none,none,none,none,none,none,none,none,none,none,some (F_Z47,pol_Z47),none,none,none,some (F_Z77,pol_Z77),none,some (F_Z34,pol_Z34),some (F_Z35,pol_Z35),none,none,none,none,none,none,none,none,none,some (F_Z26,pol_Z26),none,none,none,none,some (F_Z72,pol_Z72),some (F_Z78,pol_Z78),none,none,none,none,none,none,some (F_Z83,pol_Z83),some (F_Z87,pol_Z87),some (F_Z95,pol_Z95),none,none,some (F_Z104,pol_Z104),none,none,none,none,none,none,some (F_Z14,pol_Z14),some (F_Z79,pol_Z79),some (F_Z89,pol_Z89),some (F_Z111,pol_Z111),some (F_Z107,pol_Z107),some (F_Z73,pol_Z73),some (F_Z25,pol_Z25),none,none,some (F_Z18,pol_Z18),none,none,some (F_Z12,pol_Z12),some (F_Z17,pol_Z17),some (F_Z48,pol_Z48),some (F_Z19,pol_Z19),some (F_Z10,pol_Z10),some (F_Z28,pol_Z28),none,none,none,none,none,none,some (F_Z43,pol_Z43),none,none,some (F_Z20,pol_Z20),none,some (F_Z88,pol_Z88),some (F_Z94,pol_Z94),some (F_Z81,pol_Z81),none,some (F_Z90,pol_Z90),some (F_Z93,pol_Z93),none,some (F_Z58,pol_Z58),some (F_Z41,pol_Z41),none,none,none,some (F_Z38,pol_Z38),none,none,none,none,none,none,none,some (F_Z76,pol_Z76),none,none,none,none,none,none,none,some (F_Z75,pol_Z75),some (F_Z84,pol_Z84),none,none,none,none,none,none,none,none,none,none,none,none,none,none,none,none,none,none,some (F_Z108,pol_Z108),none,none,none,none,none,none,some (F_Z29,pol_Z29),some (F_Z13,pol_Z13),some (F_Z30,pol_Z30),some (F_Z2,pol_Z2),some (F_Z0,pol_Z0),some (F_Z46,pol_Z46),some (F_Z55,pol_Z55),none,none,none,none,some (F_Z99,pol_Z99),some (F_Z74,pol_Z74),none,none,none,none,none,none,none,none,none,some (F_Z110,pol_Z110),none,none,none,some (F_Z3,pol_Z3),some (F_Z1,pol_Z1),none,none,none,none,none,none,none,none,none,none,none,none,none,none,none,none,none,none,none,none,none,none,some (F_Z4,pol_Z4),none,none,none,none,none,none,none,none,none,none,none,none,none,none,none,none,none,none,none,none,none,none,none,none,none,none]
def primL:List (Option (Run→List Dv→Option Dv)):=[none,none,none,none,none,none,none,none,none,none,none,none,none,none,none,none,none,none,none,none,none,none,none,none,none,none,none,none,none,none,none,none,none,none,none,none,none,none,none,none,none,none,none,none,none,none,none,none,none,none,none,none,none,none,none,none,none,none,none,none,none,none,none,none,none,none,none,none,none,none,none,none,none,none,none,none,none,none,none,none,none,none,none,none,none,none,none,none,none,none,none,none,none,none,none,none,none,none,none,none,none,none,none,none,none,none,none,none,none,none,none,none,none,none,none,none,none,none,none,none,none,none,none,none,none,none,none,none,none,none,none,none,none,none,none,none,none,none,none,none,none,none,none,none,none,none,none,none,none,none,none,none,none,none,none,none,none,none,none,none,none,none,none,none,none,none,none,none,none,none,none,none,none,none,none,none,none,none,none,none,none,none,none,none,none,none,none,none,none,none,none,none,none,none,none,none,none,none,none,none,none,none,none,none,none,none,none,none,none,none,none,none,none,none,none,none,none,none,none,none,none,none,none,none,none,none,none,none,none,none,none,none,none,none,none,some qhj,some qhC,none,none,none,none,none,none,none,none,none,none,none,none,none,none,none,none,none,none,none,none,none,none,none,none,none,none,none,none,none,none,none,none,none,none,none,some (qe9 n_Z17),some (qdc n_Z53),none,none,none,none,none,none,none,none,none,none,none,some (qlk yI),none,none,none,none,none,none,none,none,none,none,none,none,none,none,none,none,none,none,none,none,none,none,none,none,none,none,none,none,none,none,none,none,none,none,none,none,none,none,none,none,none,none,none,none,none,none,none,none,none,none,none,none,none,none,none,none,none,none,none,none,none,none,none,none,none,none,none,none,none,none,none,none,none,none,none,none,none,none,none,none,none,none,none,none,none,none,none,none,none,none,none,none]
def E:Env:={ P:=Tryz.prog,fn:=fun f=>fnL.getD f none,prim:=fun f=>primL.getD f none,sig:=fun f=>sigL.getD f none }
theorem sig_laws_FnMaps_eq:E.sig n_Z39=some sg_Z39:=rfl
abbrev RT(f:Nat)(s:Sig)(q:Pol)(F:Func):Prop:=∀ n args,run E (n+1) f args=qos E (mkR (run E n)) s q F n args
theorem run_Z39:RT n_Z39 sg_Z39 pol_Z39 F_Z39:=fun _ _=>rfl
theorem run_Z40:RT n_Z40 sg_Z40 pol_Z40 F_Z40:=fun _ _=>rfl
theorem run_Z64:RT n_Z64 sg_Z64 pol_Z64 F_Z64:=fun _ _=>rfl
theorem run_Z5:RT n_Z5 sg_Z5 pol_Z5 F_Z5:=fun _ _=>rfl
theorem run_Z7:RT n_Z7 sg_Z7 pol_Z7 F_Z7:=fun _ _=>rfl
theorem run_Z66:RT n_Z66 sg_Z66 pol_Z66 F_Z66:=fun _ _=>rfl
theorem run_Z8:RT n_Z8 sg_Z8 pol_Z8 F_Z8:=fun _ _=>rfl
theorem run_Z69:RT n_Z69 sg_Z69 pol_Z69 F_Z69:=fun _ _=>rfl
theorem run_Z6:RT n_Z6 sg_Z6 pol_Z6 F_Z6:=fun _ _=>rfl
theorem run_Z65:RT n_Z65 sg_Z65 pol_Z65 F_Z65:=fun _ _=>rfl
theorem run_Z63:RT n_Z63 sg_Z63 pol_Z63 F_Z63:=fun _ _=>rfl
theorem run_Z67:RT n_Z67 sg_Z67 pol_Z67 F_Z67:=fun _ _=>rfl
theorem run_Z68:RT n_Z68 sg_Z68 pol_Z68 F_Z68:=fun _ _=>rfl
theorem run_Z71:RT n_Z71 sg_Z71 pol_Z71 F_Z71:=fun _ _=>rfl
theorem run_Z91:RT n_Z91 sg_Z91 pol_Z91 F_Z91:=fun _ _=>rfl
theorem run_Z80:RT n_Z80 sg_Z80 pol_Z80 F_Z80:=fun _ _=>rfl
theorem run_Z105:RT n_Z105 sg_Z105 pol_Z105 F_Z105:=fun _ _=>rfl
theorem run_Z106:RT n_Z106 sg_Z106 pol_Z106 F_Z106:=fun _ _=>rfl
theorem run_Z103:RT n_Z103 sg_Z103 pol_Z103 F_Z103:=fun _ _=>rfl
theorem run_Z16:RT n_Z16 sg_Z16 pol_Z16 F_Z16:=fun _ _=>rfl
theorem run_Z15:RT n_Z15 sg_Z15 pol_Z15 F_Z15:=fun _ _=>rfl
theorem run_Z33:RT n_Z33 sg_Z33 pol_Z33 F_Z33:=fun _ _=>rfl
theorem run_Z101:RT n_Z101 sg_Z101 pol_Z101 F_Z101:=fun _ _=>rfl
theorem run_Z9:RT n_Z9 sg_Z9 pol_Z9 F_Z9:=fun _ _=>rfl
theorem run_Z27:RT n_Z27 sg_Z27 pol_Z27 F_Z27:=fun _ _=>rfl
theorem run_Z22:RT n_Z22 sg_Z22 pol_Z22 F_Z22:=fun _ _=>rfl
theorem run_Z11:RT n_Z11 sg_Z11 pol_Z11 F_Z11:=fun _ _=>rfl
theorem run_Z36:RT n_Z36 sg_Z36 pol_Z36 F_Z36:=fun _ _=>rfl
theorem run_Z98:RT n_Z98 sg_Z98 pol_Z98 F_Z98:=fun _ _=>rfl
theorem run_Z70:RT n_Z70 sg_Z70 pol_Z70 F_Z70:=fun _ _=>rfl
theorem run_Z92:RT n_Z92 sg_Z92 pol_Z92 F_Z92:=fun _ _=>rfl
theorem run_Z97:RT n_Z97 sg_Z97 pol_Z97 F_Z97:=fun _ _=>rfl
theorem run_Z32:RT n_Z32 sg_Z32 pol_Z32 F_Z32:=fun _ _=>rfl
theorem run_Z51:RT n_Z51 sg_Z51 pol_Z51 F_Z51:=fun _ _=>rfl
theorem run_Z24:RT n_Z24 sg_Z24 pol_Z24 F_Z24:=fun _ _=>rfl
theorem run_Z60:RT n_Z60 sg_Z60 pol_Z60 F_Z60:=fun _ _=>rfl
theorem run_Z37:RT n_Z37 sg_Z37 pol_Z37 F_Z37:=fun _ _=>rfl
theorem run_Z109:RT n_Z109 sg_Z109 pol_Z109 F_Z109:=fun _ _=>rfl
theorem run_Z31:RT n_Z31 sg_Z31 pol_Z31 F_Z31:=fun _ _=>rfl
theorem run_Z23:RT n_Z23 sg_Z23 pol_Z23 F_Z23:=fun _ _=>rfl
theorem run_Z53:RT n_Z53 sg_Z53 pol_Z53 F_Z53:=fun _ _=>rfl
theorem run_Z100:RT n_Z100 sg_Z100 pol_Z100 F_Z100:=fun _ _=>rfl
theorem run_Z96:RT n_Z96 sg_Z96 pol_Z96 F_Z96:=fun _ _=>rfl
theorem run_Z102:RT n_Z102 sg_Z102 pol_Z102 F_Z102:=fun _ _=>rfl
theorem run_Z82:RT n_Z82 sg_Z82 pol_Z82 F_Z82:=fun _ _=>rfl
theorem run_Z86:RT n_Z86 sg_Z86 pol_Z86 F_Z86:=fun _ _=>rfl
theorem run_Z85:RT n_Z85 sg_Z85 pol_Z85 F_Z85:=fun _ _=>rfl
theorem run_Z47:RT n_Z47 sg_Z47 pol_Z47 F_Z47:=fun _ _=>rfl
theorem run_Z77:RT n_Z77 sg_Z77 pol_Z77 F_Z77:=fun _ _=>rfl
theorem run_Z34:RT n_Z34 sg_Z34 pol_Z34 F_Z34:=fun _ _=>rfl
theorem run_Z35:RT n_Z35 sg_Z35 pol_Z35 F_Z35:=fun _ _=>rfl
theorem run_Z26:RT n_Z26 sg_Z26 pol_Z26 F_Z26:=fun _ _=>rfl
theorem run_Z72:RT n_Z72 sg_Z72 pol_Z72 F_Z72:=fun _ _=>rfl
theorem run_Z78:RT n_Z78 sg_Z78 pol_Z78 F_Z78:=fun _ _=>rfl
theorem run_Z83:RT n_Z83 sg_Z83 pol_Z83 F_Z83:=fun _ _=>rfl
theorem run_Z87:RT n_Z87 sg_Z87 pol_Z87 F_Z87:=fun _ _=>rfl
theorem run_Z95:RT n_Z95 sg_Z95 pol_Z95 F_Z95:=fun _ _=>rfl
theorem run_Z104:RT n_Z104 sg_Z104 pol_Z104 F_Z104:=fun _ _=>rfl
theorem run_Z14:RT n_Z14 sg_Z14 pol_Z14 F_Z14:=fun _ _=>rfl
theorem run_Z79:RT n_Z79 sg_Z79 pol_Z79 F_Z79:=fun _ _=>rfl
theorem run_Z89:RT n_Z89 sg_Z89 pol_Z89 F_Z89:=fun _ _=>rfl
theorem run_Z111:RT n_Z111 sg_Z111 pol_Z111 F_Z111:=fun _ _=>rfl
theorem run_Z107:RT n_Z107 sg_Z107 pol_Z107 F_Z107:=fun _ _=>rfl
theorem run_Z73:RT n_Z73 sg_Z73 pol_Z73 F_Z73:=fun _ _=>rfl
theorem run_Z25:RT n_Z25 sg_Z25 pol_Z25 F_Z25:=fun _ _=>rfl
theorem run_Z18:RT n_Z18 sg_Z18 pol_Z18 F_Z18:=fun _ _=>rfl
theorem run_Z12:RT n_Z12 sg_Z12 pol_Z12 F_Z12:=fun _ _=>rfl
theorem sig_impl_compareSimplices_eq:E.sig n_Z17=some sg_Z17:=rfl
theorem run_Z17:RT n_Z17 sg_Z17 pol_Z17 F_Z17:=fun _ _=>rfl
theorem run_Z48:RT n_Z48 sg_Z48 pol_Z48 F_Z48:=fun _ _=>rfl
theorem run_Z19:RT n_Z19 sg_Z19 pol_Z19 F_Z19:=fun _ _=>rfl
theorem run_Z10:RT n_Z10 sg_Z10 pol_Z10 F_Z10:=fun _ _=>rfl
theorem run_Z28:RT n_Z28 sg_Z28 pol_Z28 F_Z28:=fun _ _=>rfl
theorem sig_slices_Sort_Sint64_int64_eq:E.sig n_Z62=some sg_Z62:=rfl
theorem sig_slices_Compact_Sint64_int64_eq:E.sig n_Z45=some sg_Z45:=rfl
theorem run_Z43:RT n_Z43 sg_Z43 pol_Z43 F_Z43:=fun _ _=>rfl
theorem run_Z20:RT n_Z20 sg_Z20 pol_Z20 F_Z20:=fun _ _=>rfl
theorem run_Z88:RT n_Z88 sg_Z88 pol_Z88 F_Z88:=fun _ _=>rfl
theorem run_Z94:RT n_Z94 sg_Z94 pol_Z94 F_Z94:=fun _ _=>rfl
theorem run_Z81:RT n_Z81 sg_Z81 pol_Z81 F_Z81:=fun _ _=>rfl
theorem run_Z90:RT n_Z90 sg_Z90 pol_Z90 F_Z90:=fun _ _=>rfl
theorem run_Z93:RT n_Z93 sg_Z93 pol_Z93 F_Z93:=fun _ _=>rfl
theorem run_Z58:RT n_Z58 sg_Z58 pol_Z58 F_Z58:=fun _ _=>rfl
theorem run_Z41:RT n_Z41 sg_Z41 pol_Z41 F_Z41:=fun _ _=>rfl
theorem run_Z38:RT n_Z38 sg_Z38 pol_Z38 F_Z38:=fun _ _=>rfl
theorem run_Z76:RT n_Z76 sg_Z76 pol_Z76 F_Z76:=fun _ _=>rfl
theorem sig_slices_SortFunc_SSint64_Sint64_eq:E.sig n_Z61=some sg_Z61:=rfl
theorem sig_slices_CompactFunc_SSint64_Sint64_eq:E.sig n_Z44=some sg_Z44:=rfl
theorem run_Z75:RT n_Z75 sg_Z75 pol_Z75 F_Z75:=fun _ _=>rfl
theorem run_Z84:RT n_Z84 sg_Z84 pol_Z84 F_Z84:=fun _ _=>rfl
theorem sig_slices_Grow_Sint64_int64_eq:E.sig n_Z54=some sg_Z54:=rfl
theorem run_Z108:RT n_Z108 sg_Z108 pol_Z108 F_Z108:=fun _ _=>rfl
theorem run_Z29:RT n_Z29 sg_Z29 pol_Z29 F_Z29:=fun _ _=>rfl
theorem run_Z13:RT n_Z13 sg_Z13 pol_Z13 F_Z13:=fun _ _=>rfl
theorem run_Z30:RT n_Z30 sg_Z30 pol_Z30 F_Z30:=fun _ _=>rfl
theorem run_Z2:RT n_Z2 sg_Z2 pol_Z2 F_Z2:=fun _ _=>rfl
theorem run_Z0:RT n_Z0 sg_Z0 pol_Z0 F_Z0:=fun _ _=>rfl
theorem run_Z46:RT n_Z46 sg_Z46 pol_Z46 F_Z46:=fun _ _=>rfl
theorem run_Z55:RT n_Z55 sg_Z55 pol_Z55 F_Z55:=fun _ _=>rfl
theorem run_Z99:RT n_Z99 sg_Z99 pol_Z99 F_Z99:=fun _ _=>rfl
theorem run_Z74:RT n_Z74 sg_Z74 pol_Z74 F_Z74:=fun _ _=>rfl
theorem run_Z110:RT n_Z110 sg_Z110 pol_Z110 F_Z110:=fun _ _=>rfl
theorem run_Z3:RT n_Z3 sg_Z3 pol_Z3 F_Z3:=fun _ _=>rfl
theorem run_Z1:RT n_Z1 sg_Z1 pol_Z1 F_Z1:=fun _ _=>rfl
theorem run_Z4:RT n_Z4 sg_Z4 pol_Z4 F_Z4:=fun _ _=>rfl
abbrev eC(R:Run)(q:Pol)(N:Nat)(l:List Nat)(F:Func):=qa2 E R q N (sub l (bodyOf F))
abbrev kB(R:Run)(q:Pol)(k:Nat)(K:Kt):=qoJ (qbA R q.blkM k) k K
abbrev kS(R:Run)(q:Pol)(k N:Nat)(l:List Nat)(F:Func)(K:Kt):=qoI (qbA R q.seqM k) (qa2 E R q N (sub l (bodyOf F))) K
abbrev kL(R:Run)(q:Pol)(k N:Nat)(l:List Nat)(F:Func)(n:Nat)(K:Kt):=qpc (qa2 E R q N (sub l (bodyOf F))) (qbA R q.loopM k) n K
abbrev lC(R:Run)(q:Pol)(k N:Nat)(l:List Nat)(F:Func)(n:Nat)(s:Ve.St)(K:Kt):=qjH (qa2 E R q N (sub l (bodyOf F))) (qbA R q.loopM k) n s K
end
end VeT

open Go Go.Proofs Ve
set_option maxRecDepth 100000
namespace VeT
noncomputable section
abbrev q0_0(R:Run)(N:Nat):=kS R pol_Z74 11 N [1,1,1,1] F_Z74
abbrev q0_1(R:Run)(N:Nat):=kS R pol_Z105 20 N [1,1,1,1,1,1,1,1,1] F_Z105
abbrev q0_2(R:Run)(N:Nat):=kS R pol_Z55 7 N [1,1] F_Z55
abbrev q0_3(R:Run)(N:Nat):=lC R pol_Z55 2 N [1,0,1,0,0] F_Z55
theorem Z40.ev(R:Run)(N:Nat)(a0:List Int):qos E R sg_Z40 pol_Z40 F_Z40 N [⟨(.sl (.int .u8)),a0⟩]=some ⟨o_Z40,((decide ((List.length a0:Int)>(1048576:Int))),())⟩:=by kernel_rfl
theorem Z71.ev(R:Run)(N:Nat)(a0:List Int):qos E R sg_Z71 pol_Z71 F_Z71 N [⟨(.sl (.int .u8)),a0⟩]=some ⟨o_Z71,((a0,(0:Int),(0:Int),()),())⟩:=by kernel_rfl
def Z78.j0(R:Run)(N:Nat)(a:Int)(b:List Int)(e f:Int):Option Dv:=R.w (some ⟨(.c (.box 62 0)::(V.dead::(V.dead::(.c (.d yI a)::(zd 58 []))))),(zo 62 (some (.box [.d (.sl (.int .u8)) b,.d yI e,.d (.int .u64) f] false true)::[]))⟩) fun st=>eC R pol_Z78 N [1,1,1] F_Z78 st (qo8 E sg_Z78 F_Z78)
theorem Z78.j0_eq(R:Run)(hw:R.ok)(N:Nat)(a:Int)(b:List Int)(c d:Int):Z78.j0 R N a b c d=(bif (decide ((w64 (c+1))≤(List.length b:Int))) then some ⟨o_Z78,(a,(b,(w64 (c+1)),(IntKind.wrap .u64 ((IntKind.wrap .u64 ((IntKind.wrap .u64 (d*(6364136223846793005:Int)))+(IntKind.wrap .u64 (a))))+(1442695040888963407:Int))),()),())⟩ else((chk (decide (0≤(40:Int)))).bind fun _=>some ⟨o_Z78,((w64 ((IntKind.wrap .u64 (BitVec.toNat (BitVec.ofInt (IntKind.bits .u64) (Int.fdiv (IntKind.wrap .u64 ((IntKind.wrap .u64 ((IntKind.wrap .u64 (d*(6364136223846793005:Int)))+(IntKind.wrap .u64 (a))))+(1442695040888963407:Int))) (2 ^ (min (Int.toNat (40:Int)) (IntKind.bits .u64)))) &&& BitVec.ofInt (IntKind.bits .u64) (255:Int)))))),(b,(w64 (c+1)),(IntKind.wrap .u64 ((IntKind.wrap .u64 ((IntKind.wrap .u64 (d*(6364136223846793005:Int)))+(IntKind.wrap .u64 (a))))+(1442695040888963407:Int))),()),())⟩)):=(hw _ _).trans (by kernel_rfl)
theorem Z78.ev(R:Run)(N:Nat)(a0:((List Int)×Int×Int×Unit)):qos E R sg_Z78 pol_Z78 F_Z78 N [⟨(.ptr yR),a0⟩]=(bif (decide (a0.2.1<(List.length a0.1:Int))) then((idx? a0.1 a0.2.1).bind fun y1=>(Z78.j0 R N (w64 ((y1,()).1)) a0.1 a0.2.1 a0.2.2.1)) else(Z78.j0 R N (0:Int) a0.1 a0.2.1 a0.2.2.1)):=by kernel_rfl
theorem Z80.ev(R:Run)(N:Nat)(a0:((List Int)×Int×Int×Unit))(a1:Int):qos E R sg_Z80 pol_Z80 F_Z80 N [⟨(.ptr yR),a0⟩,⟨yI,a1⟩]=(bif (decide (a1≤(1:Int))) then some ⟨o_Z80,((0:Int),(a0.1,a0.2.1,a0.2.2.1,()),())⟩ else((qdp R n_Z78 o_Z78 [⟨(.ptr yR),(a0.1,a0.2.1,a0.2.2.1,())⟩]).bind fun r1=>(bif (decide (a1>(200:Int))) then((qdp R n_Z78 o_Z78 [⟨(.ptr yR),(r1.2.1.1,r1.2.1.2.1,r1.2.1.2.2.1,())⟩]).bind fun r2=>((chk (a1 != 0)).bind fun _=>some ⟨o_Z80,((Int.tmod (w64 ((w64 (r1.1*(256:Int)))+r2.1)) a1),(r2.2.1.1,r2.2.1.2.1,r2.2.1.2.2.1,()),())⟩)) else((chk (a1 != 0)).bind fun _=>some ⟨o_Z80,((Int.tmod r1.1 a1),(r1.2.1.1,r1.2.1.2.1,r1.2.1.2.2.1,()),())⟩)))):=by kernel_rfl
def Z76.l0(R:Run)(N n:Nat)(a b:List Int)(e:Int):Option Dv:=R.w (some ⟨(.c (.d yL a)::(.c (.d yL b)::(zd 3 (.c (.d yI e)::(zd 20 []))))),(zo 28 [])⟩) fun st=>lC R pol_Z76 4 N [1,1,0,1,0,0] F_Z76 n st (kB R pol_Z76 0 (kS R pol_Z76 8 N [1,1,1] F_Z76 (qo8 E sg_Z76 F_Z76)))
theorem Z76.l0_succ(R:Run)(hw:R.ok)(N n:Nat)(a b:List Int)(c:Int):Z76.l0 R N (n+1) a b c=(bif (decide (c<(List.length a:Int))) then((idx? a c).bind fun y4=>((idx? b c).bind fun y5=>(bif ((y4,()).1 != (y5,()).1) then some ⟨o_Z76,(false,())⟩ else(Z76.l0 R N n a b (w64 (c+1)))))) else some ⟨o_Z76,(true,())⟩):=(hw _ _).trans (by kernel_rfl)
theorem Z76.ev(R:Run)(N:Nat)(a0 a1:List Int):qos E R sg_Z76 pol_Z76 F_Z76 N [⟨yL,a0⟩,⟨yL,a1⟩]=(bif ((List.length a0:Int) != (List.length a1:Int)) then some ⟨o_Z76,(false,())⟩ else(Z76.l0 R N N a0 a1 (0:Int))):=by kernel_rfl
def Z96.l0(R:Run)(N n:Nat)(a:(vK×Unit))(b:List Int)(e:Int):Option Dv:=R.w (some ⟨(.c (.ip yC a 0)::(.c (.d yL b)::(zd 3 (.c (.d yI e)::(zd 19 []))))),(zo 27 [])⟩) fun st=>lC R pol_Z96 2 N [1,0,1,0,0] F_Z96 n st (kB R pol_Z96 0 (kS R pol_Z96 6 N [1,1] F_Z96 (qo8 E sg_Z96 F_Z96)))
theorem Z96.l0_succ(R:Run)(hw:R.ok)(N n:Nat)(a:(vK×Unit))(b:List Int)(c:Int):Z96.l0 R N (n+1) a b c=(bif (decide (c<(List.length a.1:Int))) then((idx? a.1 c).bind fun y4=>((qdp R n_Z76 o_Z76 [⟨yL,(y4,()).1⟩,⟨yL,b⟩]).bind fun r5=>(bif r5.1 then some ⟨o_Z96,(c,())⟩ else(Z96.l0 R N n a b (w64 (c+1)))))) else some ⟨o_Z96,((-1:Int),())⟩):=(hw _ _).trans (by kernel_rfl)
theorem Z96.ev(R:Run)(N:Nat)(a0:(vK×Unit))(a1:List Int):qos E R sg_Z96 pol_Z96 F_Z96 N [⟨(.ptr yC),a0⟩,⟨yL,a1⟩]=(Z96.l0 R N N a0 a1 (0:Int)):=by kernel_rfl
theorem Z73.ev(R:Run)(N:Nat)(a0:List Int):qos E R sg_Z73 pol_Z73 F_Z73 N [⟨yL,a0⟩]=((chk (decide ((List.length ([]:List Int)+List.length a0)*8≤70368744177664))).bind fun _=>some ⟨o_Z73,((([]:List Int)++a0),())⟩):=by kernel_rfl
theorem Z94.ev(R:Run)(N:Nat)(a0:List Int)(a1:Int):qos E R sg_Z94 pol_Z94 F_Z94 N [⟨yL,a0⟩,⟨yI,a1⟩]=((chk (decide (0≤a1)&&decide (a1≤(List.length a0:Int)))).bind fun _=>((qdp R n_Z73 o_Z73 [⟨yL,(List.take (Int.toNat a1) a0)⟩]).bind fun r1=>((chk (decide (0≤(w64 (a1+1)))&&decide ((w64 (a1+1))≤(List.length a0:Int)))).bind fun _=>((chk (decide ((List.length r1.1+List.length (List.drop (Int.toNat (w64 (a1+1))) a0))*8≤70368744177664))).bind fun _=>some ⟨o_Z94,((r1.1++(List.drop (Int.toNat (w64 (a1+1))) a0)),())⟩)))):=by kernel_rfl
def Z88.l0(R:Run)(N n:Nat)(a b:List Int)(e:Int):Option Dv:=R.w (some ⟨(.c (.d yL a)::(.c (.d yL b)::(zd 3 (.c (.d yI e)::(zd 34 []))))),(zo 42 [])⟩) fun st=>lC R pol_Z88 4 N [1,1,0,1,0,0] F_Z88 n st (kB R pol_Z88 0 (kS R pol_Z88 8 N [1,1,1] F_Z88 (qo8 E sg_Z88 F_Z88)))
theorem Z88.l0_succ(R:Run)(hw:R.ok)(N n:Nat)(a b:List Int)(c:Int):Z88.l0 R N (n+1) a b c=(bif (decide (c<(List.length a:Int))) then((idx? a c).bind fun y4=>((idx? b c).bind fun y5=>(bif ((y4,()).1 != (y5,()).1) then((idx? a c).bind fun y6=>((idx? b c).bind fun y7=>some ⟨o_Z88,((decide ((y6,()).1<(y7,()).1)),())⟩)) else(Z88.l0 R N n a b (w64 (c+1)))))) else some ⟨o_Z88,(false,())⟩):=(hw _ _).trans (by kernel_rfl)
theorem Z88.ev(R:Run)(N:Nat)(a0 a1:List Int):qos E R sg_Z88 pol_Z88 F_Z88 N [⟨yL,a0⟩,⟨yL,a1⟩]=(bif ((List.length a0:Int) != (List.length a1:Int)) then some ⟨o_Z88,((decide ((List.length a0:Int)<(List.length a1:Int))),())⟩ else(Z88.l0 R N N a0 a1 (0:Int))):=by kernel_rfl
def Z99.j3(R:Run)(N a:Nat)(b:List Int)(e:Int)(f:Bool)(g:vK):Option Dv:=R.w (some ⟨(.c (.box 71 0)::(.c (.d yL b)::(zd 3 (.c (.d yI e)::(zd 38 (.c (.d .bool f)::(zd 26 []))))))),(zo 71 (some (.box [.arr 73] false true)::(none::(some (.arr yL g false false false)::(none::(none::[]))))))⟩) fun st=>eC R pol_Z99 N [1,1,1,0,0,0,0,1] F_Z99 st (kS R pol_Z99 7 N [1,1,1,0,0,0,1] F_Z99 (kL R pol_Z99 6 N [1,1,1,0,0,0] F_Z99 a (kB R pol_Z99 2 (kS R pol_Z99 8 N [1,1,1,1] F_Z99 (qo8 E sg_Z99 F_Z99)))))
def Z99.l2(R:Run)(N n:Nat)(a:List Int)(b:Int)(e:vK):Option Dv:=R.w (some ⟨(.c (.box 71 0)::(.c (.d yL a)::(zd 3 (.c (.d yI b)::(zd 65 []))))),(zo 71 (some (.box [.arr 73] false true)::(none::(some (.arr yL e false false false)::(none::(none::[]))))))⟩) fun st=>lC R pol_Z99 6 N [1,1,1,0,0,0] F_Z99 n st (kB R pol_Z99 2 (kS R pol_Z99 8 N [1,1,1,1] F_Z99 (qo8 E sg_Z99 F_Z99)))
def Z99.j1(R:Run)(N a:Nat)(b:List Int)(e:Int)(f:Bool)(g:vK):Option Dv:=R.w (some ⟨(.c (.box 71 0)::(.c (.d yL b)::(V.dead::(V.dead::(.c (.d yI e)::(zd 14 (.c (.d .bool f)::(zd 51 [])))))))),(zo 71 (some (.box [.arr 73] false true)::(none::(some (.arr yL g false false false)::(none::(none::[]))))))⟩) fun st=>eC R pol_Z99 N [1,0,1,0,0,0,1] F_Z99 st (kS R pol_Z99 4 N [1,0,1,0,0,1] F_Z99 (kL R pol_Z99 2 N [1,0,1,0,0] F_Z99 a (kB R pol_Z99 0 (kS R pol_Z99 5 N [1,1] F_Z99 (qo8 E sg_Z99 F_Z99)))))
def Z99.l0(R:Run)(N n:Nat)(a:List Int)(b:Int)(e:vK):Option Dv:=R.w (some ⟨(.c (.box 71 0)::(.c (.d yL a)::(V.dead::(V.dead::(.c (.d yI b)::(zd 66 [])))))),(zo 71 (some (.box [.arr 73] false true)::(none::(some (.arr yL e false false false)::(none::(none::[]))))))⟩) fun st=>lC R pol_Z99 2 N [1,0,1,0,0] F_Z99 n st (kB R pol_Z99 0 (kS R pol_Z99 5 N [1,1] F_Z99 (qo8 E sg_Z99 F_Z99)))
theorem Z99.j3_eq(R:Run)(hw:R.ok)(N a:Nat)(b:List Int)(c:Int)(d:Bool)(e:vK):Z99.j3 R N a b c d e=(bif d then(Z99.l2 R N a b (w64 (c+1)) e) else((chk (decide (0≤c)&&decide (c≤(List.length e:Int)))).bind fun _=>((chk (decide ((List.length ([]:List (List Int))+List.length (List.drop 0 (List.take (Int.toNat c) e)))*24≤70368744177664))).bind fun _=>((qdp R n_Z73 o_Z73 [⟨yL,b⟩]).bind fun r26=>((chk (decide ((List.length (([]:List (List Int))++(List.drop 0 (List.take (Int.toNat c) e)))+List.length [r26.1])*24≤70368744177664))).bind fun _=>((chk (decide (0≤c)&&decide (c≤(List.length e:Int)))).bind fun _=>((chk (decide ((List.length ((([]:List (List Int))++(List.drop 0 (List.take (Int.toNat c) e)))++[r26.1])+List.length (List.drop (Int.toNat c) (List.take (List.length e) e)))*24≤70368744177664))).bind fun _=>some ⟨o_Z99,(((((([]:List (List Int))++(List.drop 0 (List.take (Int.toNat c) e)))++[r26.1])++(List.drop (Int.toNat c) (List.take (List.length e) e))),()),())⟩))))))):=(hw _ _).trans (by kernel_rfl)
theorem Z99.l2_succ(R:Run)(hw:R.ok)(N n:Nat)(a:List Int)(b:Int)(c:vK):Z99.l2 R N (n+1) a b c=(bif (decide (b<(List.length c:Int))) then((chk (decide (0≤b)&&decide (b<(List.length c:Int)))).bind fun _=>(Option.bind (c)[(Int.toNat b)]? fun y17=>((qdp R n_Z88 o_Z88 [⟨yL,y17⟩,⟨yL,a⟩]).bind fun r18=>(Z99.j3 R N n a b r18.1 c)))) else(Z99.j3 R N n a b false c)):=(hw _ _).trans (by kernel_rfl)
theorem Z99.j1_eq(R:Run)(hw:R.ok)(N a:Nat)(b:List Int)(c:Int)(d:Bool)(e:vK):Z99.j1 R N a b c d e=(bif d then((qdp R n_Z94 o_Z94 [⟨yL,b⟩,⟨yI,c⟩]).bind fun r9=>((qdp R n_Z99 o_Z99 [⟨(.ptr yC),(e,())⟩,⟨yL,r9.1⟩]).bind fun r10=>(Z99.l0 R N a b (w64 (c+1)) r10.1.1))) else(Z99.l2 R N N b (0:Int) e)):=(hw _ _).trans (by kernel_rfl)
theorem Z99.l0_succ(R:Run)(hw:R.ok)(N n:Nat)(a:List Int)(b:Int)(c:vK):Z99.l0 R N (n+1) a b c=(bif (decide (b<(List.length a:Int))) then(Z99.j1 R N n a b (decide ((List.length a:Int)>(1:Int))) c) else(Z99.j1 R N n a b false c)):=(hw _ _).trans (by kernel_rfl)
theorem Z99.ev(R:Run)(N:Nat)(a0:(vK×Unit))(a1:List Int):qos E R sg_Z99 pol_Z99 F_Z99 N [⟨(.ptr yC),a0⟩,⟨yL,a1⟩]=((qdp R n_Z96 o_Z96 [⟨(.ptr yC),(a0.1,())⟩,⟨yL,a1⟩]).bind fun r1=>(bif (decide (r1.1≥(0:Int))) then some ⟨o_Z99,((a0.1,()),())⟩ else(Z99.l0 R N N a1 (0:Int) a0.1))):=by kernel_rfl
def Z90.l0(R:Run)(N n:Nat)(a:vK)(b:Int)(e:vK):Option Dv:=R.w (some ⟨(.c (.d yK a)::(V.dead::(.c (.box 2 0)::(.c (.box 3 0)::(.c (.d yI b)::(zd 14 [])))))),(none::(none::(some (.box [.nils yL] false false)::(some (.box [.arr 5] false false)::(none::(some (.arr yL e false false false)::(zo 14 [])))))))⟩) fun st=>lC R pol_Z90 3 N [1,1,0,1,0,0] F_Z90 n st (kB R pol_Z90 0 (kS R pol_Z90 6 N [1,1,1] F_Z90 (qo8 E sg_Z90 F_Z90)))
theorem Z90.l0_succ(R:Run)(hw:R.ok)(N n:Nat)(a:vK)(b:Int)(c:vK):Z90.l0 R N (n+1) a b c=(bif (decide (b<(List.length a:Int))) then((idx? a b).bind fun y4=>((qdp R n_Z99 o_Z99 [⟨(.ptr yC),(c,())⟩,⟨yL,(y4,()).1⟩]).bind fun r5=>(Z90.l0 R N n a (w64 (b+1)) r5.1.1))) else some ⟨o_Z90,(c,())⟩):=(hw _ _).trans (by kernel_rfl)
theorem Z90.ev(R:Run)(N:Nat)(a0:vK):qos E R sg_Z90 pol_Z90 F_Z90 N [⟨yK,a0⟩]=(Z90.l0 R N N a0 (0:Int) ([]:List (List Int))):=by kernel_rfl
def Z74.j2(R:Run)(N a:Nat)(b:List Int)(e:Int)(f:Bool)(g:Int)(h:List Int):Option Dv:=R.w (some ⟨(.c (.d yL b)::(.c (.d yI e)::(zd 3 (.c (.arr 8)::(.c (.d .bool f)::(.c (.d yI g)::(zd 41 []))))))),(zo 8 (some (.arr yI h true false false)::(zo 42 [])))⟩) fun st=>eC R pol_Z74 N [1,1,1,0,1,0,0,1,0,0,1] F_Z74 st (kB R pol_Z74 1 (kS R pol_Z74 5 N [1,1,1,0,1,0,0,1,1] F_Z74 (kL R pol_Z74 4 N [1,1,1,0,1,0,0] F_Z74 a (kB R pol_Z74 0 (q0_0 R N (qo8 E sg_Z74 F_Z74))))))
def Z74.j1(R:Run)(N a:Nat)(b:List Int)(e:Int)(f:Bool)(g:Int)(h:Bool)(i:List Int):Option Dv:=R.w (some ⟨(.c (.d yL b)::(.c (.d yI e)::(zd 3 (.c (.arr 8)::(.c (.d .bool f)::(.c (.d yI g)::(zd 16 (.c (.d .bool h)::(zd 24 []))))))))),(zo 8 (some (.arr yI i true false false)::(zo 42 [])))⟩) fun st=>eC R pol_Z74 N [1,1,1,0,1,0,0,1,0,0,0,1] F_Z74 st (kS R pol_Z74 10 N [1,1,1,0,1,0,0,1,0,0,1] F_Z74 (kB R pol_Z74 1 (kS R pol_Z74 5 N [1,1,1,0,1,0,0,1,1] F_Z74 (kL R pol_Z74 4 N [1,1,1,0,1,0,0] F_Z74 a (kB R pol_Z74 0 (q0_0 R N (qo8 E sg_Z74 F_Z74)))))))
def Z74.l0(R:Run)(N n:Nat)(a:List Int)(b:Int)(e:Bool)(f:Int)(g:List Int):Option Dv:=R.w (some ⟨(.c (.d yL a)::(.c (.d yI b)::(zd 3 (.c (.arr 8)::(.c (.d .bool e)::(.c (.d yI f)::(zd 41 []))))))),(zo 8 (some (.arr yI g true false false)::(zo 42 [])))⟩) fun st=>lC R pol_Z74 4 N [1,1,1,0,1,0,0] F_Z74 n st (kB R pol_Z74 0 (q0_0 R N (qo8 E sg_Z74 F_Z74)))
theorem Z74.j2_eq(R:Run)(hw:R.ok)(N a:Nat)(b:List Int)(c:Int)(d:Bool)(e:Int)(f:List Int):Z74.j2 R N a b c d e f=((idx? b e).bind fun y19=>((chk (decide ((List.length f+List.length [(y19,()).1])*8≤70368744177664))).bind fun _=>(Z74.l0 R N a b c d (w64 (e+1)) (f++[(y19,()).1])))):=(hw _ _).trans (by kernel_rfl)
theorem Z74.j1_eq(R:Run)(hw:R.ok)(N a:Nat)(b:List Int)(c:Int)(d:Bool)(e:Int)(f:Bool)(g:List Int):Z74.j1 R N a b c d e f g=(bif f then((idx? b e).bind fun y13=>(bif (decide ((y13,()).1>c)) then((chk (decide ((List.length g+List.length [c])*8≤70368744177664))).bind fun _=>(Z74.j2 R N a b c true e (g++[c]))) else(Z74.j2 R N a b c true e g))) else(Z74.j2 R N a b c d e g)):=(hw _ _).trans (by kernel_rfl)
theorem Z74.l0_succ(R:Run)(hw:R.ok)(N n:Nat)(a:List Int)(b:Int)(c:Bool)(d:Int)(e:List Int):Z74.l0 R N (n+1) a b c d e=(bif (decide (d<(List.length a:Int))) then(bif (!c) then((idx? a d).bind fun y6=>(Z74.j1 R N n a b c d (decide ((y6,()).1≥b)) e)) else(Z74.j1 R N n a b c d false e)) else(bif (!c) then((chk (decide ((List.length e+List.length [b])*8≤70368744177664))).bind fun _=>some ⟨o_Z74,((e++[b]),())⟩) else some ⟨o_Z74,(e,())⟩)):=(hw _ _).trans (by kernel_rfl)
theorem Z74.ev(R:Run)(N:Nat)(a0:List Int)(a1:Int):qos E R sg_Z74 pol_Z74 F_Z74 N [⟨yL,a0⟩,⟨yI,a1⟩]=(Z74.l0 R N N a0 a1 false (0:Int) ([]:List Int)):=by kernel_rfl
def Z93.l0(R:Run)(N n:Nat)(a:Int)(b:List Int)(e:Int)(f:List Int)(g h:Int):Option Dv:=R.w (some ⟨(.c (.box 24 0)::(.c (.d yI a)::(zd 5 (.c (.d yL b)::(.c (.d yI e)::(zd 15 [])))))),(zo 24 (some (.box [.d (.sl (.int .u8)) f,.d yI g,.d (.int .u64) h] false true)::(none::(none::[]))))⟩) fun st=>lC R pol_Z93 3 N [1,1,0,1,0,0] F_Z93 n st (kB R pol_Z93 0 (kS R pol_Z93 6 N [1,1,1] F_Z93 (qo8 E sg_Z93 F_Z93)))
theorem Z93.l0_succ(R:Run)(hw:R.ok)(N n:Nat)(a:Int)(b:List Int)(c:Int)(d:List Int)(e f:Int):Z93.l0 R N (n+1) a b c d e f=(bif (decide (c>(0:Int))) then((qdp R n_Z80 o_Z80 [⟨(.ptr yR),(d,e,f,())⟩,⟨yI,a⟩]).bind fun r8=>((qdp R n_Z74 o_Z74 [⟨yL,b⟩,⟨yI,r8.1⟩]).bind fun r9=>(Z93.l0 R N n a r9.1 (w64 (c-1)) r8.2.1.1 r8.2.1.2.1 r8.2.1.2.2.1))) else some ⟨o_Z93,(b,(d,e,f,()),())⟩):=(hw _ _).trans (by kernel_rfl)
theorem Z93.ev(R:Run)(N:Nat)(a0:((List Int)×Int×Int×Unit))(a1 a2:Int):qos E R sg_Z93 pol_Z93 F_Z93 N [⟨(.ptr yR),a0⟩,⟨yI,a1⟩,⟨yI,a2⟩]=((qdp R n_Z80 o_Z80 [⟨(.ptr yR),(a0.1,a0.2.1,a0.2.2.1,())⟩,⟨yI,a2⟩]).bind fun r1=>(Z93.l0 R N N a1 ([]:List Int) (w64 ((1:Int)+r1.1)) r1.2.1.1 r1.2.1.2.1 r1.2.1.2.2.1)):=by kernel_rfl
theorem Z79.ev(R:Run)(N:Nat)(a0:((List Int)×Int×Int×Unit))(a1:Int):qos E R sg_Z79 pol_Z79 F_Z79 N [⟨(.ptr yR),a0⟩,⟨yI,a1⟩]=((qdp R n_Z80 o_Z80 [⟨(.ptr yR),(a0.1,a0.2.1,a0.2.2.1,())⟩,⟨yI,a1⟩]).bind fun r1=>some ⟨o_Z79,((r1.1==(0:Int)),(r1.2.1.1,r1.2.1.2.1,r1.2.1.2.2.1,()),())⟩):=by kernel_rfl
def Z92.j1(R:Run)(N:Nat)(a:vK)(b:List Int)(e f:Int):Option Dv:=R.w (some ⟨(V.dead::(V.dead::(.c (.box 2 0)::(.c (.arr 24)::(zd 44 []))))),(none::(none::(some (.box [.nils yL] false false)::(zo 21 (some (.arr yL a false false false)::(zo 23 (some (.box [.d (.sl (.int .u8)) b,.d yI e,.d (.int .u64) f] false true)::(zo 3 []))))))))⟩) fun st=>eC R pol_Z92 N [1,1,1,1,1,1] F_Z92 st (qo8 E sg_Z92 F_Z92)
def Z92.l0(R:Run)(N n:Nat)(a b:Int)(e:vK)(f:List Int)(g h:Int):Option Dv:=R.w (some ⟨(.c (.box 48 0)::(V.dead::(.c (.box 2 0)::(.c (.arr 24)::(.c (.d yI a)::(.c (.d yI b)::(zd 42 []))))))),(none::(none::(some (.box [.nils yL] false false)::(zo 21 (some (.arr yL e false false false)::(zo 23 (some (.box [.d (.sl (.int .u8)) f,.d yI g,.d (.int .u64) h] false true)::(zo 3 []))))))))⟩) fun st=>lC R pol_Z92 9 N [1,1,1,1,0,1,0,0] F_Z92 n st (kB R pol_Z92 1 (kS R pol_Z92 12 N [1,1,1,1,1] F_Z92 (qo8 E sg_Z92 F_Z92)))
theorem Z92.j1_eq(R:Run)(hw:R.ok)(N:Nat)(a:vK)(b:List Int)(c d:Int):Z92.j1 R N a b c d=((qdp R n_Z90 o_Z90 [⟨yK,a⟩]).bind fun r24=>some ⟨o_Z92,(r24.1,(b,c,d,()),())⟩):=(hw _ _).trans (by kernel_rfl)
theorem Z92.l0_succ(R:Run)(hw:R.ok)(N n:Nat)(a b:Int)(c:vK)(d:List Int)(e f:Int):Z92.l0 R N (n+1) a b c d e f=(bif (decide (b>(0:Int))) then((qdp R n_Z93 o_Z93 [⟨(.ptr yR),(d,e,f,())⟩,⟨yI,a⟩,⟨yI,(3:Int)⟩]).bind fun r12=>((chk (decide ((List.length c+List.length [r12.1])*24≤70368744177664))).bind fun _=>(Z92.l0 R N n a (w64 (b-1)) (c++[r12.1]) r12.2.1.1 r12.2.1.2.1 r12.2.1.2.2.1))) else((qdp R n_Z79 o_Z79 [⟨(.ptr yR),(d,e,f,())⟩,⟨yI,(6:Int)⟩]).bind fun r19=>(bif r19.1 then((chk (decide ((List.length c+List.length [[(0:Int),(1:Int),(2:Int),(3:Int)]])*24≤70368744177664))).bind fun _=>(Z92.j1 R N (c++[[(0:Int),(1:Int),(2:Int),(3:Int)]]) r19.2.1.1 r19.2.1.2.1 r19.2.1.2.2.1)) else(Z92.j1 R N c r19.2.1.1 r19.2.1.2.1 r19.2.1.2.2.1)))):=(hw _ _).trans (by kernel_rfl)
theorem Z92.ev(R:Run)(N:Nat)(a0:((List Int)×Int×Int×Unit)):qos E R sg_Z92 pol_Z92 F_Z92 N [⟨(.ptr yR),a0⟩]=((qdp R n_Z80 o_Z80 [⟨(.ptr yR),(a0.1,a0.2.1,a0.2.2.1,())⟩,⟨yI,(6:Int)⟩]).bind fun r1=>(bif (r1.1==(0:Int)) then((qdp R n_Z90 o_Z90 [⟨yK,[[(0:Int),(1:Int)],[(1:Int),(2:Int)],[(0:Int),(2:Int)],[(2:Int),(3:Int)]]⟩]).bind fun r2=>some ⟨o_Z92,(r2.1,(r1.2.1.1,r1.2.1.2.1,r1.2.1.2.2.1,()),())⟩) else(bif (r1.1==(1:Int)) then((qdp R n_Z90 o_Z90 [⟨yK,[[(0:Int),(1:Int),(2:Int)],[(0:Int),(1:Int),(3:Int)],[(0:Int),(2:Int),(3:Int)],[(1:Int),(2:Int),(3:Int)]]⟩]).bind fun r3=>some ⟨o_Z92,(r3.1,(r1.2.1.1,r1.2.1.2.1,r1.2.1.2.2.1,()),())⟩) else((qdp R n_Z80 o_Z80 [⟨(.ptr yR),(r1.2.1.1,r1.2.1.2.1,r1.2.1.2.2.1,())⟩,⟨yI,(4:Int)⟩]).bind fun r4=>((qdp R n_Z80 o_Z80 [⟨(.ptr yR),(r4.2.1.1,r4.2.1.2.1,r4.2.1.2.2.1,())⟩,⟨yI,(6:Int)⟩]).bind fun r5=>(Z92.l0 R N N (w64 ((3:Int)+r4.1)) r5.1 ([]:List (List Int)) r5.2.1.1 r5.2.1.2.1 r5.2.1.2.2.1)))))):=by kernel_rfl
theorem Z77.ev(R:Run)(N:Nat)(a0:((List Int)×Int×Int×Unit))(a1:List Int):qos E R sg_Z77 pol_Z77 F_Z77 N [⟨(.ptr yR),a0⟩,⟨yL,a1⟩]=((qdp R n_Z80 o_Z80 [⟨(.ptr yR),(a0.1,a0.2.1,a0.2.2.1,())⟩,⟨yI,(List.length a1:Int)⟩]).bind fun r1=>((idx? a1 r1.1).bind fun y2=>some ⟨o_Z77,((y2,()).1,(r1.2.1.1,r1.2.1.2.1,r1.2.1.2.2.1,()),())⟩)):=by kernel_rfl
def Z89.j0(R:Run)(N:Nat)(a:vK)(b:List Int)(e f:Int):Option Dv:=R.w (some ⟨(V.dead::(V.dead::(.c (.box 2 0)::(.c (.box 3 0)::(zd 53 []))))),(none::(none::(some (.box [.nils yL] false false)::(some (.box [.d yK a] false false)::(zo 53 (some (.box [.d (.sl (.int .u8)) b,.d yI e,.d (.int .u64) f] false true)::(none::[])))))))⟩) fun st=>eC R pol_Z89 N [1,1,1,1] F_Z89 st (qo8 E sg_Z89 F_Z89)
theorem Z89.j0_eq(R:Run)(hw:R.ok)(N:Nat)(a:vK)(b:List Int)(c d:Int):Z89.j0 R N a b c d=some ⟨o_Z89,(a,(b,c,d,()),())⟩:=(hw _ _).trans (by kernel_rfl)
theorem Z89.ev(R:Run)(N:Nat)(a0:((List Int)×Int×Int×Unit)):qos E R sg_Z89 pol_Z89 F_Z89 N [⟨(.ptr yR),a0⟩]=((qdp R n_Z92 o_Z92 [⟨(.ptr yR),(a0.1,a0.2.1,a0.2.2.1,())⟩]).bind fun r1=>((qdp R n_Z80 o_Z80 [⟨(.ptr yR),(r1.2.1.1,r1.2.1.2.1,r1.2.1.2.2.1,())⟩,⟨yI,(20:Int)⟩]).bind fun r2=>(bif (r2.1==(0:Int)) then(bif (decide ((List.length r1.1:Int)>(1:Int))) then((chk (decide (0≤(1:Int))&&decide ((1:Int)≤(List.length r1.1:Int)))).bind fun _=>(Z89.j0 R N (List.drop (Int.toNat (1:Int)) (List.take (List.length r1.1) r1.1)) r2.2.1.1 r2.2.1.2.1 r2.2.1.2.2.1)) else(Z89.j0 R N r1.1 r2.2.1.1 r2.2.1.2.1 r2.2.1.2.2.1)) else(bif (r2.1==(1:Int)) then((qdp R n_Z77 o_Z77 [⟨(.ptr yR),(r2.2.1.1,r2.2.1.2.1,r2.2.1.2.2.1,())⟩,⟨yL,[(0:Int),(9:Int),(10:Int),(-1:Int)]⟩]).bind fun r11=>((chk (decide ((List.length r1.1+List.length [[r11.1]])*24≤70368744177664))).bind fun _=>(Z89.j0 R N (r1.1++[[r11.1]]) r11.2.1.1 r11.2.1.2.1 r11.2.1.2.2.1))) else(bif (r2.1==(2:Int)) then((chk (decide ((List.length r1.1+List.length [[(0:Int),(1:Int),(2:Int),(3:Int),(4:Int)]])*24≤70368744177664))).bind fun _=>(Z89.j0 R N (r1.1++[[(0:Int),(1:Int),(2:Int),(3:Int),(4:Int)]]) r2.2.1.1 r2.2.1.2.1 r2.2.1.2.2.1)) else(bif (r2.1==(3:Int)) then((qdp R n_Z90 o_Z90 [⟨yK,[[(0:Int),(1:Int),(2:Int),(3:Int)],[(4:Int),(5:Int),(6:Int),(7:Int)],[(0:Int),(1:Int),(8:Int),(9:Int)],[(2:Int),(4:Int),(8:Int)]]⟩]).bind fun r20=>((qdp R n_Z79 o_Z79 [⟨(.ptr yR),(r2.2.1.1,r2.2.1.2.1,r2.2.1.2.2.1,())⟩,⟨yI,(2:Int)⟩]).bind fun r21=>(bif r21.1 then((qdp R n_Z90 o_Z90 [⟨yK,[[(0:Int),(1:Int),(2:Int),(3:Int)],[(4:Int),(5:Int),(6:Int),(7:Int)],[(0:Int),(1:Int),(8:Int),(9:Int)],[(2:Int),(3:Int),(8:Int),(9:Int)],[(4:Int),(5:Int),(8:Int),(9:Int)]]⟩]).bind fun r22=>(Z89.j0 R N r22.1 r21.2.1.1 r21.2.1.2.1 r21.2.1.2.2.1)) else(Z89.j0 R N r20.1 r21.2.1.1 r21.2.1.2.1 r21.2.1.2.2.1)))) else(Z89.j0 R N r1.1 r2.2.1.1 r2.2.1.2.1 r2.2.1.2.2.1))))))):=by kernel_rfl
def Z111.l0(R:Run)(N n:Nat)(a:(vK×Unit))(b:Int)(e:List Int):Option Dv:=R.w (some ⟨(.c (.ip yC a 0)::(V.dead::(V.dead::(.c (.arr 5)::(.c (.d yI b)::(zd 32 [])))))),(zo 5 (some (.arr yI e true false false)::(zo 32 [])))⟩) fun st=>lC R pol_Z111 3 N [1,1,0,1,0,0] F_Z111 n st (kB R pol_Z111 0 (kS R pol_Z111 7 N [1,1,1] F_Z111 (qo8 E sg_Z111 F_Z111)))
theorem Z111.l0_succ(R:Run)(hw:R.ok)(N n:Nat)(a:(vK×Unit))(b:Int)(c:List Int):Z111.l0 R N (n+1) a b c=(bif (decide (b<(List.length a.1:Int))) then((idx? a.1 b).bind fun y4=>(bif ((List.length (y4,()).1:Int)==(1:Int)) then((idx? a.1 b).bind fun y5=>((idx? (y5,()).1 (0:Int)).bind fun y6=>((chk (decide ((List.length c+List.length [(y6,()).1])*8≤70368744177664))).bind fun _=>(Z111.l0 R N n a (w64 (b+1)) (c++[(y6,()).1]))))) else(Z111.l0 R N n a (w64 (b+1)) c))) else some ⟨o_Z111,(c,())⟩):=(hw _ _).trans (by kernel_rfl)
theorem Z111.ev(R:Run)(N:Nat)(a0:(vK×Unit)):qos E R sg_Z111 pol_Z111 F_Z111 N [⟨(.ptr yC),a0⟩]=(Z111.l0 R N N a0 (0:Int) ([]:List Int)):=by kernel_rfl
def Z110.l0(R:Run)(N n:Nat)(a b:List Int)(e f:Int):Option Dv:=R.w (some ⟨(.c (.d yL a)::(.c (.d yL b)::(.c (.d yI e)::(zd 4 (.c (.d yI f)::(zd 16 [])))))),(zo 27 [])⟩) fun st=>lC R pol_Z110 2 N [1,0,1,0,0] F_Z110 n st (kB R pol_Z110 0 (kS R pol_Z110 6 N [1,1] F_Z110 (qo8 E sg_Z110 F_Z110)))
theorem Z110.l0_succ(R:Run)(hw:R.ok)(N n:Nat)(a b:List Int)(c d:Int):Z110.l0 R N (n+1) a b c d=(bif (decide (d<(List.length b:Int))) then((idx? a d).bind fun y5=>(bif ((y5,()).1==c) then((idx? b d).bind fun y6=>some ⟨o_Z110,((y6,()).1,())⟩) else(Z110.l0 R N n a b c (w64 (d+1))))) else some ⟨o_Z110,((-1:Int),())⟩):=(hw _ _).trans (by kernel_rfl)
theorem Z110.ev(R:Run)(N:Nat)(a0 a1:List Int)(a2:Int):qos E R sg_Z110 pol_Z110 F_Z110 N [⟨yL,a0⟩,⟨yL,a1⟩,⟨yI,a2⟩]=(Z110.l0 R N N a0 a1 a2 (0:Int)):=by kernel_rfl
def Z108.l0(R:Run)(N n:Nat)(a b e f:List Int)(g:Int):Option Dv:=R.w (some ⟨(.c (.d yL a)::(.c (.d yL b)::(.c (.d yL e)::(zd 5 (.c (.d yL f)::(.c (.d yI g)::(zd 21 []))))))),(zo 34 [])⟩) fun st=>lC R pol_Z108 3 N [1,1,0,1,0,0] F_Z108 n st (kB R pol_Z108 0 (kS R pol_Z108 9 N [1,1,1] F_Z108 (qo8 E sg_Z108 F_Z108)))
theorem Z108.l0_succ(R:Run)(hw:R.ok)(N n:Nat)(a b c d:List Int)(e:Int):Z108.l0 R N (n+1) a b c d e=(bif (decide (e<(List.length c:Int))) then((idx? c e).bind fun y6=>((qdp R n_Z110 o_Z110 [⟨yL,a⟩,⟨yL,b⟩,⟨yI,(y6,()).1⟩]).bind fun r7=>(bif (decide (r7.1<(0:Int))) then some ⟨o_Z108,(([]:List Int),false,())⟩ else((qdp R n_Z74 o_Z74 [⟨yL,d⟩,⟨yI,r7.1⟩]).bind fun r8=>(Z108.l0 R N n a b c r8.1 (w64 (e+1))))))) else some ⟨o_Z108,(d,true,())⟩):=(hw _ _).trans (by kernel_rfl)
theorem Z108.ev(R:Run)(N:Nat)(a0 a1 a2:List Int):qos E R sg_Z108 pol_Z108 F_Z108 N [⟨yL,a0⟩,⟨yL,a1⟩,⟨yL,a2⟩]=(Z108.l0 R N N a0 a1 a2 ([]:List Int) (0:Int)):=by kernel_rfl
def Z107.j1(R:Run)(N a:Nat)(b e:(vK×Unit))(f g:List Int)(h:Int)(i:Bool):Option Dv:=R.w (some ⟨(.c (.ip yC b 0)::(.c (.ip yC e 0)::(.c (.d yL f)::(.c (.d yL g)::(zd 5 (.c (.d yI h)::(zd 30 (.c (.d .bool i)::[])))))))),(zo 45 [])⟩) fun st=>eC R pol_Z107 N [1,0,1,0,0,1,0,0,1,1] F_Z107 st (kB R pol_Z107 1 (kS R pol_Z107 3 N [1,0,1,0,0,1,1] F_Z107 (kL R pol_Z107 2 N [1,0,1,0,0] F_Z107 a (kB R pol_Z107 0 (kS R pol_Z107 7 N [1,1] F_Z107 (qo8 E sg_Z107 F_Z107))))))
def Z107.l0(R:Run)(N n:Nat)(a b:(vK×Unit))(e f:List Int)(g:Int):Option Dv:=R.w (some ⟨(.c (.ip yC a 0)::(.c (.ip yC b 0)::(.c (.d yL e)::(.c (.d yL f)::(zd 5 (.c (.d yI g)::(zd 31 []))))))),(zo 45 [])⟩) fun st=>lC R pol_Z107 2 N [1,0,1,0,0] F_Z107 n st (kB R pol_Z107 0 (kS R pol_Z107 7 N [1,1] F_Z107 (qo8 E sg_Z107 F_Z107)))
theorem Z107.j1_eq(R:Run)(hw:R.ok)(N a:Nat)(b c:(vK×Unit))(d e:List Int)(f:Int)(g:Bool):Z107.j1 R N a b c d e f g=(bif g then some ⟨o_Z107,(false,())⟩ else(Z107.l0 R N a b c d e (w64 (f+1)))):=(hw _ _).trans (by kernel_rfl)
theorem Z107.l0_succ(R:Run)(hw:R.ok)(N n:Nat)(a b:(vK×Unit))(c d:List Int)(e:Int):Z107.l0 R N (n+1) a b c d e=(bif (decide (e<(List.length a.1:Int))) then((idx? a.1 e).bind fun y6=>((qdp R n_Z108 o_Z108 [⟨yL,c⟩,⟨yL,d⟩,⟨yL,(y6,()).1⟩]).bind fun r7=>(bif r7.2.1 then((qdp R n_Z96 o_Z96 [⟨(.ptr yC),b⟩,⟨yL,r7.1⟩]).bind fun r8=>(Z107.j1 R N n a b c d e (decide (r8.1<(0:Int))))) else(Z107.j1 R N n a b c d e false)))) else some ⟨o_Z107,(true,())⟩):=(hw _ _).trans (by kernel_rfl)
theorem Z107.ev(R:Run)(N:Nat)(a0 a1:(vK×Unit))(a2 a3:List Int):qos E R sg_Z107 pol_Z107 F_Z107 N [⟨(.ptr yC),a0⟩,⟨(.ptr yC),a1⟩,⟨yL,a2⟩,⟨yL,a3⟩]=(Z107.l0 R N N a0 a1 a2 a3 (0:Int)):=by kernel_rfl
def Z105.l4(R:Run)(N a n:Nat)(b e:List Int)(f g h:Int)(i:vK)(j k:List Int)(l m:Int)(o:vK):Option Dv:=R.w (some ⟨(.c (.box 89 0)::(V.dead::(.c (.box 2 0)::(.c (.box 3 0)::(V.dead::(.c (.box 5 0)::(.c (.box 6 0)::(.c (.d yL b)::(.c (.d yL e)::(.c (.arr 27)::(.c (.d yI f)::(.c (.d yI g)::(.c (.d yI h)::(zd 76 [])))))))))))))),(none::(none::(some (.box [.nils yL] false false)::(some (.box [.nils yL] false false)::(none::(some (.box [.arr 91] false false)::(some (.box [.d yK i] false false)::(zo 20 (some (.arr yI j true false false)::(zo 61 (some (.box [.d (.sl (.int .u8)) k,.d yI l,.d (.int .u64) m] false true)::(none::(some (.arr yL o false true false)::[])))))))))))))⟩) fun st=>lC R pol_Z105 15 N [1,1,1,1,1,1,1,1,0,1,0,0,1,0,0,1,1,0,0] F_Z105 n st (kB R pol_Z105 2 (kB R pol_Z105 1 (kS R pol_Z105 12 N [1,1,1,1,1,1,1,1,0,1,0,0,1,1] F_Z105 (kL R pol_Z105 11 N [1,1,1,1,1,1,1,1,0,1,0,0] F_Z105 a (kB R pol_Z105 0 (q0_1 R N (qo8 E sg_Z105 F_Z105)))))))
def Z105.j5(R:Run)(N:Nat)(a:vK)(b e:List Int)(f g:Int)(h:vK):Option Dv:=R.w (some ⟨(V.dead::(V.dead::(.c (.box 2 0)::(.c (.box 3 0)::(V.dead::(.c (.box 5 0)::(.c (.box 6 0)::(V.dead::(V.dead::(.c (.arr 27)::(zd 79 []))))))))))),(none::(none::(some (.box [.nils yL] false false)::(some (.box [.nils yL] false false)::(none::(some (.box [.arr 91] false false)::(some (.box [.d yK a] false false)::(zo 20 (some (.arr yI b true false false)::(zo 61 (some (.box [.d (.sl (.int .u8)) e,.d yI f,.d (.int .u64) g] false true)::(none::(some (.arr yL h false true false)::[])))))))))))))⟩) fun st=>eC R pol_Z105 N [1,1,1,1,1,1,1,1,1,1] F_Z105 st (qo8 E sg_Z105 F_Z105)
def Z105.j3(R:Run)(N a:Nat)(b e:List Int)(f:Int)(g:Bool)(h:vK)(i j:List Int)(k l:Int)(m:vK):Option Dv:=R.w (some ⟨(.c (.box 89 0)::(V.dead::(.c (.box 2 0)::(.c (.box 3 0)::(V.dead::(.c (.box 5 0)::(.c (.box 6 0)::(.c (.d yL b)::(.c (.d yL e)::(.c (.arr 27)::(.c (.d yI f)::(zd 25 (.c (.d .bool g)::(zd 52 [])))))))))))))),(none::(none::(some (.box [.nils yL] false false)::(some (.box [.nils yL] false false)::(none::(some (.box [.arr 91] false false)::(some (.box [.d yK h] false false)::(zo 20 (some (.arr yI i true false false)::(zo 61 (some (.box [.d (.sl (.int .u8)) j,.d yI k,.d (.int .u64) l] false true)::(none::(some (.arr yL m false true false)::[])))))))))))))⟩) fun st=>eC R pol_Z105 N [1,1,1,1,1,1,1,1,0,1,0,0,0,1] F_Z105 st (kS R pol_Z105 13 N [1,1,1,1,1,1,1,1,0,1,0,0,1] F_Z105 (kL R pol_Z105 11 N [1,1,1,1,1,1,1,1,0,1,0,0] F_Z105 a (kB R pol_Z105 0 (q0_1 R N (qo8 E sg_Z105 F_Z105)))))
def Z105.l2(R:Run)(N n:Nat)(a b:List Int)(e:Int)(f:vK)(g h:List Int)(i j:Int)(k:vK):Option Dv:=R.w (some ⟨(.c (.box 89 0)::(V.dead::(.c (.box 2 0)::(.c (.box 3 0)::(V.dead::(.c (.box 5 0)::(.c (.box 6 0)::(.c (.d yL a)::(.c (.d yL b)::(.c (.arr 27)::(.c (.d yI e)::(zd 78 [])))))))))))),(none::(none::(some (.box [.nils yL] false false)::(some (.box [.nils yL] false false)::(none::(some (.box [.arr 91] false false)::(some (.box [.d yK f] false false)::(zo 20 (some (.arr yI g true false false)::(zo 61 (some (.box [.d (.sl (.int .u8)) h,.d yI i,.d (.int .u64) j] false true)::(none::(some (.arr yL k false true false)::[])))))))))))))⟩) fun st=>lC R pol_Z105 11 N [1,1,1,1,1,1,1,1,0,1,0,0] F_Z105 n st (kB R pol_Z105 0 (q0_1 R N (qo8 E sg_Z105 F_Z105)))
def Z105.j1(R:Run)(N:Nat)(a:vK)(b:List Int)(e f:Int)(g:vK):Option Dv:=R.w (some ⟨(.c (.box 89 0)::(V.dead::(.c (.box 2 0)::(.c (.box 3 0)::(V.dead::(.c (.box 5 0)::(.c (.box 6 0)::(zd 82 [])))))))),(none::(none::(some (.box [.nils yL] false false)::(some (.box [.nils yL] false false)::(none::(some (.box [.arr 91] false false)::(some (.box [.d yK a] false false)::(zo 82 (some (.box [.d (.sl (.int .u8)) b,.d yI e,.d (.int .u64) f] false true)::(none::(some (.arr yL g false true false)::[])))))))))))⟩) fun st=>eC R pol_Z105 N [1,1,1,1,1] F_Z105 st (qo8 E sg_Z105 F_Z105)
def Z105.j0(R:Run)(N:Nat)(a:vK)(b:List Int)(e f:Int)(g:vK):Option Dv:=R.w (some ⟨(.c (.box 89 0)::(V.dead::(.c (.box 2 0)::(.c (.box 3 0)::(V.dead::(.c (.box 5 0)::(.c (.box 6 0)::(zd 82 [])))))))),(none::(none::(some (.box [.nils yL] false false)::(some (.box [.nils yL] false false)::(none::(some (.box [.arr 91] false false)::(some (.box [.d yK a] false false)::(zo 82 (some (.box [.d (.sl (.int .u8)) b,.d yI e,.d (.int .u64) f] false true)::(none::(some (.arr yL g false true false)::[])))))))))))⟩) fun st=>eC R pol_Z105 N [1,1,1,1] F_Z105 st (qo8 E sg_Z105 F_Z105)
theorem Z105.l4_succ(R:Run)(hw:R.ok)(N a n:Nat)(b c:List Int)(d e f:Int)(g:vK)(h i:List Int)(j k:Int)(l:vK):Z105.l4 R N a (n+1) b c d e f g h i j k l=(bif (decide (f<(List.length c:Int))) then((chk ((List.length c:Int) != 0)).bind fun _=>((idx? c (Int.tmod (w64 (e+f)) (List.length c:Int))).bind fun y49=>((qdp R n_Z73 o_Z73 [⟨yL,h⟩]).bind fun r50=>((chk (decide ((List.length r50.1+List.length [(y49,()).1])*8≤70368744177664))).bind fun _=>((qdp R n_Z107 o_Z107 [⟨(.ptr yC),(l,())⟩,⟨(.ptr yC),(g,())⟩,⟨yL,b⟩,⟨yL,(r50.1++[(y49,()).1])⟩]).bind fun r51=>(bif r51.1 then((chk (decide ((List.length h+List.length [(y49,()).1])*8≤70368744177664))).bind fun _=>(Z105.l2 R N a b c (w64 (d+1)) g (h++[(y49,()).1]) i j k l)) else(Z105.l4 R N a n b c d e (w64 (f+1)) g h i j k l))))))) else(Z105.l2 R N a b c (w64 (d+1)) g h i j k l)):=(hw _ _).trans (by kernel_rfl)
theorem Z105.j5_eq(R:Run)(hw:R.ok)(N:Nat)(a:vK)(b c:List Int)(d e:Int)(f:vK):Z105.j5 R N a b c d e f=some ⟨o_Z105,(f,a,b,(c,d,e,()),())⟩:=(hw _ _).trans (by kernel_rfl)
theorem Z105.j3_eq(R:Run)(hw:R.ok)(N a:Nat)(b c:List Int)(d:Int)(e:Bool)(f:vK)(g h:List Int)(i j:Int)(k:vK):Z105.j3 R N a b c d e f g h i j k=(bif e then((qdp R n_Z80 o_Z80 [⟨(.ptr yR),(h,i,j,())⟩,⟨yI,(List.length c:Int)⟩]).bind fun r37=>(Z105.l4 R N a N b c d r37.1 (0:Int) f g r37.2.1.1 r37.2.1.2.1 r37.2.1.2.2.1 k)) else((qdp R n_Z80 o_Z80 [⟨(.ptr yR),(h,i,j,())⟩,⟨yI,(18:Int)⟩]).bind fun r81=>(bif (r81.1==(0:Int)) then((chk (decide ((List.length g+List.length [(0:Int)])*8≤70368744177664))).bind fun _=>(Z105.j5 R N f (g++[(0:Int)]) r81.2.1.1 r81.2.1.2.1 r81.2.1.2.2.1 k)) else(bif (r81.1==(1:Int)) then(bif (decide ((List.length g:Int)>(0:Int))) then((qdp R n_Z77 o_Z77 [⟨(.ptr yR),(r81.2.1.1,r81.2.1.2.1,r81.2.1.2.2.1,())⟩,⟨yL,[(-1:Int),(9:Int),(10:Int),(3:Int)]⟩]).bind fun r88=>((chk (decide (0≤(0:Int))&&decide ((0:Int)<(List.length g:Int)))).bind fun _=>(Z105.j5 R N f (List.set g (Int.toNat (0:Int)) r88.1) r88.2.1.1 r88.2.1.2.1 r88.2.1.2.2.1 k))) else(Z105.j5 R N f g r81.2.1.1 r81.2.1.2.1 r81.2.1.2.2.1 k)) else(Z105.j5 R N f g r81.2.1.1 r81.2.1.2.1 r81.2.1.2.2.1 k))))):=(hw _ _).trans (by kernel_rfl)
theorem Z105.l2_succ(R:Run)(hw:R.ok)(N n:Nat)(a b:List Int)(c:Int)(d:vK)(e f:List Int)(g h:Int)(i:vK):Z105.l2 R N (n+1) a b c d e f g h i=(bif (decide (c<(List.length a:Int))) then(Z105.j3 R N n a b c (decide ((List.length b:Int)>(0:Int))) d e f g h i) else(Z105.j3 R N n a b c false d e f g h i)):=(hw _ _).trans (by kernel_rfl)
theorem Z105.j1_eq(R:Run)(hw:R.ok)(N:Nat)(a:vK)(b:List Int)(c d:Int)(e:vK):Z105.j1 R N a b c d e=((qdp R n_Z111 o_Z111 [⟨(.ptr yC),(e,())⟩]).bind fun r16=>((qdp R n_Z111 o_Z111 [⟨(.ptr yC),(a,())⟩]).bind fun r17=>(Z105.l2 R N N r16.1 r17.1 (0:Int) a ([]:List Int) b c d e))):=(hw _ _).trans (by kernel_rfl)
theorem Z105.j0_eq(R:Run)(hw:R.ok)(N:Nat)(a:vK)(b:List Int)(c d:Int)(e:vK):Z105.j0 R N a b c d e=((qdp R n_Z79 o_Z79 [⟨(.ptr yR),(b,c,d,())⟩,⟨yI,(16:Int)⟩]).bind fun r9=>(bif r9.1 then((qdp R n_Z89 o_Z89 [⟨(.ptr yR),(r9.2.1.1,r9.2.1.2.1,r9.2.1.2.2.1,())⟩]).bind fun r10=>(Z105.j1 R N r10.1 r10.2.1.1 r10.2.1.2.1 r10.2.1.2.2.1 e)) else(Z105.j1 R N a r9.2.1.1 r9.2.1.2.1 r9.2.1.2.2.1 e))):=(hw _ _).trans (by kernel_rfl)
theorem Z105.ev(R:Run)(N:Nat)(a0:((List Int)×Int×Int×Unit)):qos E R sg_Z105 pol_Z105 F_Z105 N [⟨(.ptr yR),a0⟩]=((qdp R n_Z92 o_Z92 [⟨(.ptr yR),(a0.1,a0.2.1,a0.2.2.1,())⟩]).bind fun r1=>((qdp R n_Z92 o_Z92 [⟨(.ptr yR),(r1.2.1.1,r1.2.1.2.1,r1.2.1.2.2.1,())⟩]).bind fun r2=>((qdp R n_Z79 o_Z79 [⟨(.ptr yR),(r2.2.1.1,r2.2.1.2.1,r2.2.1.2.2.1,())⟩,⟨yI,(3:Int)⟩]).bind fun r3=>(bif r3.1 then(Z105.j0 R N r1.1 r3.2.1.1 r3.2.1.2.1 r3.2.1.2.2.1 r1.1) else(Z105.j0 R N r2.1 r3.2.1.1 r3.2.1.2.1 r3.2.1.2.2.1 r1.1))))):=by kernel_rfl
theorem Z106.ev(R:Run)(N:Nat)(a0:((List Int)×Int×Int×Unit)):qos E R sg_Z106 pol_Z106 F_Z106 N [⟨(.ptr yR),a0⟩]=((qdp R n_Z77 o_Z77 [⟨(.ptr yR),(a0.1,a0.2.1,a0.2.2.1,())⟩,⟨yL,[(0:Int),(1:Int),(1:Int),(2:Int),(2:Int),(3:Int),(-1:Int),(4:Int)]⟩]).bind fun r1=>some ⟨o_Z106,(r1.1,(r1.2.1.1,r1.2.1.2.1,r1.2.1.2.2.1,()),())⟩):=by kernel_rfl
theorem Z103.ev(R:Run)(N:Nat)(a0:((List Int)×Int×Int×Unit)):qos E R sg_Z103 pol_Z103 F_Z103 N [⟨(.ptr yR),a0⟩]=((qdp R n_Z77 o_Z77 [⟨(.ptr yR),(a0.1,a0.2.1,a0.2.2.1,())⟩,⟨yL,[(2:Int),(3:Int),(5:Int),(7:Int),(251:Int),(2:Int),(3:Int),(5:Int),(4:Int)]⟩]).bind fun r1=>some ⟨o_Z103,(r1.1,(r1.2.1.1,r1.2.1.2.1,r1.2.1.2.2.1,()),())⟩):=by kernel_rfl
theorem Z64.ev(R:Run)(N:Nat)(a0:List Int):qos E R sg_Z64 pol_Z64 F_Z64 N [⟨(.sl (.int .u8)),a0⟩]=((qdp R n_Z71 o_Z71 [⟨(.sl (.int .u8)),a0⟩]).bind fun r1=>((qdp R n_Z105 o_Z105 [⟨(.ptr yR),(r1.1.1,r1.1.2.1,r1.1.2.2.1,())⟩]).bind fun r2=>((qdp R n_Z106 o_Z106 [⟨(.ptr yR),(r2.2.2.2.1.1,r2.2.2.2.1.2.1,r2.2.2.2.1.2.2.1,())⟩]).bind fun r3=>((qdp R n_Z103 o_Z103 [⟨(.ptr yR),(r3.2.1.1,r3.2.1.2.1,r3.2.1.2.2.1,())⟩]).bind fun r4=>some ⟨o_Z64,(r2.1,r2.2.1,r2.2.2.1,r3.1,r4.1,())⟩)))):=by kernel_rfl
theorem Z36.ev(R:Run)(N:Nat)(a0 a1 a2:Int):qos E R sg_Z36 pol_Z36 F_Z36 N [⟨yI,a0⟩,⟨yI,a1⟩,⟨yI,a2⟩]=(bif (decide (a0≥a1)) then some ⟨o_Z36,((decide (a0≤a2)),())⟩ else some ⟨o_Z36,(false,())⟩):=by kernel_rfl
def Z11.l0(R:Run)(N n:Nat)(a b:Int):Option Dv:=R.w (some ⟨(.c (.d yI a)::(V.dead::(V.dead::(.c (.d yI b)::(zd 14 []))))),(zo 19 [])⟩) fun st=>lC R pol_Z11 4 N [1,1,0,1,0,0] F_Z11 n st (kB R pol_Z11 0 (kS R pol_Z11 8 N [1,1,1] F_Z11 (qo8 E sg_Z11 F_Z11)))
theorem Z11.l0_succ(R:Run)(hw:R.ok)(N n:Nat)(a b:Int):Z11.l0 R N (n+1) a b=(bif (decide ((w64 (b*b))≤a)) then((chk (b != 0)).bind fun _=>(bif ((Int.tmod a b)==(0:Int)) then some ⟨o_Z11,(false,())⟩ else(Z11.l0 R N n a (w64 (b+1))))) else some ⟨o_Z11,(true,())⟩):=(hw _ _).trans (by kernel_rfl)
theorem Z11.ev(R:Run)(N:Nat)(a0:Int):qos E R sg_Z11 pol_Z11 F_Z11 N [⟨yI,a0⟩]=((qdp R n_Z36 o_Z36 [⟨yI,a0⟩,⟨yI,(2:Int)⟩,⟨yI,(251:Int)⟩]).bind fun r1=>(bif (!r1.1) then some ⟨o_Z11,(false,())⟩ else(Z11.l0 R N N a0 (2:Int)))):=by kernel_rfl
def Z29.l0(R:Run)(N n:Nat)(a:List Int)(b:Int):Option Dv:=R.w (some ⟨(.c (.d yL a)::(V.dead::(V.dead::(.c (.d yI b)::(zd 16 []))))),(zo 21 [])⟩) fun st=>lC R pol_Z29 2 N [1,0,1,0,0] F_Z29 n st (kB R pol_Z29 0 (kS R pol_Z29 6 N [1,1] F_Z29 (qo8 E sg_Z29 F_Z29)))
theorem Z29.l0_succ(R:Run)(hw:R.ok)(N n:Nat)(a:List Int)(b:Int):Z29.l0 R N (n+1) a b=(bif (decide (b<(List.length a:Int))) then((idx? a (w64 (b-1))).bind fun y3=>((idx? a b).bind fun y4=>(bif (decide ((y3,()).1≥(y4,()).1)) then some ⟨o_Z29,(false,())⟩ else(Z29.l0 R N n a (w64 (b+1)))))) else some ⟨o_Z29,(true,())⟩):=(hw _ _).trans (by kernel_rfl)
theorem Z29.ev(R:Run)(N:Nat)(a0:List Int):qos E R sg_Z29 pol_Z29 F_Z29 N [⟨yL,a0⟩]=(Z29.l0 R N N a0 (1:Int)):=by kernel_rfl
theorem Z30.ev(R:Run)(N:Nat)(a0:Int):qos E R sg_Z30 pol_Z30 F_Z30 N [⟨yI,a0⟩]=((qdp R n_Z36 o_Z36 [⟨yI,a0⟩,⟨yI,(0:Int)⟩,⟨yI,(9:Int)⟩]).bind fun r1=>some ⟨o_Z30,(r1.1,())⟩):=by kernel_rfl
theorem Z13.ev(R:Run)(N:Nat)(a0:Int):qos E R sg_Z13 pol_Z13 F_Z13 N [⟨yI,a0⟩]=((qdp R n_Z30 o_Z30 [⟨yI,a0⟩]).bind fun r1=>some ⟨o_Z13,((!r1.1),())⟩):=by kernel_rfl
def Z59.l0(R:Run)(N n:Nat)(a:List Int)(b e:Int):Option Dv:=R.w (some ⟨(.c (.d yL a)::(.c (.d (.fn n_Z13 .nil) ())::(zd 5 (.c (.d yI b)::(.c (.d yI e)::(zd 10 [])))))),(zo 21 [])⟩) fun st=>lC R pol_Z58 2 N [1,0,1,0,0] F_Z58 n st (kB R pol_Z58 0 (kS R pol_Z58 7 N [1,1] F_Z58 (qo8 E sg_Z58 F_Z58)))
theorem Z59.l0_succ(R:Run)(hw:R.ok)(N n:Nat)(a:List Int)(b c:Int):Z59.l0 R N (n+1) a b c=(bif (decide (c<b)) then((idx? a c).bind fun y4=>((qdp R n_Z13 o_Z13 [⟨yI,(y4,()).1⟩]).bind fun r5=>(bif r5.1 then some ⟨o_Z58,(c,())⟩ else(Z59.l0 R N n a b (w64 (c+1)))))) else some ⟨o_Z58,((-1:Int),())⟩):=(hw _ _).trans (by kernel_rfl)
theorem Z59.ev(R:Run)(N:Nat)(a0:List Int):qos E R sg_Z58 pol_Z58 F_Z58 N [⟨yL,a0⟩,⟨(.fn n_Z13 .nil),()⟩]=(Z59.l0 R N N a0 (List.length a0:Int) (0:Int)):=by kernel_rfl
theorem Z52.ev(R:Run)(N:Nat)(a0:List Int):qos E R sg_Z51 pol_Z51 F_Z51 N [⟨yL,a0⟩,⟨(.fn n_Z13 .nil),()⟩]=((qdp R n_Z58 o_Z58 [⟨yL,a0⟩,⟨(.fn n_Z13 .nil),()⟩]).bind fun r1=>some ⟨o_Z51,((decide (r1.1≥(0:Int))),())⟩):=by kernel_rfl
theorem Z12.ev(R:Run)(N:Nat)(a0:List Int):qos E R sg_Z12 pol_Z12 F_Z12 N [⟨yL,a0⟩]=(bif (decide ((List.length a0:Int)≥(1:Int))) then(bif (decide ((List.length a0:Int)≤(4:Int))) then((qdp R n_Z29 o_Z29 [⟨yL,a0⟩]).bind fun r1=>(bif r1.1 then((qdp R n_Z51 o_Z51 [⟨yL,a0⟩,⟨(.fn n_Z13 .nil),()⟩]).bind fun r2=>some ⟨o_Z12,((!r2.1),())⟩) else some ⟨o_Z12,(false,())⟩)) else some ⟨o_Z12,(false,())⟩) else some ⟨o_Z12,(false,())⟩):=by kernel_rfl
theorem Z3.ev(R:Run)(N:Nat)(a0:Int):qos E R sg_Z3 pol_Z3 F_Z3 N [⟨yI,a0⟩]=some ⟨o_Z3,((a0 != a0),())⟩:=by kernel_rfl
theorem Z0.ev(R:Run)(N:Nat)(a0 a1:Int):qos E R sg_Z0 pol_Z0 F_Z0 N [⟨yI,a0⟩,⟨yI,a1⟩]=((qdp R n_Z3 o_Z3 [⟨yI,a0⟩]).bind fun r1=>((qdp R n_Z3 o_Z3 [⟨yI,a1⟩]).bind fun r2=>(bif r1.1 then(bif r2.1 then some ⟨o_Z0,((0:Int),())⟩ else some ⟨o_Z0,((-1:Int),())⟩) else(bif r2.1 then some ⟨o_Z0,((1:Int),())⟩ else(bif (decide (a0<a1)) then some ⟨o_Z0,((-1:Int),())⟩ else(bif (decide (a0>a1)) then some ⟨o_Z0,((1:Int),())⟩ else some ⟨o_Z0,((0:Int),())⟩)))))):=by kernel_rfl
theorem Z4.ev(R:Run)(N:Nat)(a0:Int):qos E R sg_Z4 pol_Z4 F_Z4 N [⟨yI,a0⟩]=some ⟨o_Z4,((a0 != a0),())⟩:=by kernel_rfl
theorem Z1.ev(R:Run)(N:Nat)(a0 a1:Int):qos E R sg_Z1 pol_Z1 F_Z1 N [⟨yI,a0⟩,⟨yI,a1⟩]=((qdp R n_Z4 o_Z4 [⟨yI,a0⟩]).bind fun r1=>((qdp R n_Z4 o_Z4 [⟨yI,a1⟩]).bind fun r2=>(bif r1.1 then(bif r2.1 then some ⟨o_Z1,((0:Int),())⟩ else some ⟨o_Z1,((-1:Int),())⟩) else(bif r2.1 then some ⟨o_Z1,((1:Int),())⟩ else(bif (decide (a0<a1)) then some ⟨o_Z1,((-1:Int),())⟩ else(bif (decide (a0>a1)) then some ⟨o_Z1,((1:Int),())⟩ else some ⟨o_Z1,((0:Int),())⟩)))))):=by kernel_rfl
def Z46.l0(R:Run)(N n:Nat)(a b e:List Int)(f g:Int):Option Dv:=R.w (some ⟨(.c (.d yL a)::(.c (.d yL b)::(zd 7 (.c (.d yL e)::(.c (.d yI f)::(.c (.d yI g)::(zd 24 []))))))),(zo 38 [])⟩) fun st=>lC R pol_Z46 2 N [1,0,1,0,0] F_Z46 n st (kB R pol_Z46 0 (kS R pol_Z46 11 N [1,1] F_Z46 (qo8 E sg_Z46 F_Z46)))
theorem Z46.l0_succ(R:Run)(hw:R.ok)(N n:Nat)(a b c:List Int)(d e:Int):Z46.l0 R N (n+1) a b c d e=(bif (decide (e<d)) then((idx? c e).bind fun y6=>(bif (decide (e≥(List.length b:Int))) then some ⟨o_Z46,((1:Int),())⟩ else((idx? b e).bind fun y7=>((qdp R n_Z1 o_Z1 [⟨yI,(y6,()).1⟩,⟨yI,(y7,()).1⟩]).bind fun r8=>(bif (r8.1 != (0:Int)) then some ⟨o_Z46,(r8.1,())⟩ else(Z46.l0 R N n a b c d (w64 (e+1)))))))) else(bif (decide ((List.length a:Int)<(List.length b:Int))) then some ⟨o_Z46,((-1:Int),())⟩ else some ⟨o_Z46,((0:Int),())⟩)):=(hw _ _).trans (by kernel_rfl)
theorem Z46.ev(R:Run)(N:Nat)(a0 a1:List Int):qos E R sg_Z46 pol_Z46 F_Z46 N [⟨yL,a0⟩,⟨yL,a1⟩]=(Z46.l0 R N N a0 a1 a0 (List.length a0:Int) (0:Int)):=by kernel_rfl
def Z2.l0(R:Run)(N n:Nat)(a:Int)(b:List Int)(e f:Int):Option Dv:=R.w (some ⟨(zd 3 (.c (.d yI a)::(V.dead::(V.dead::(.c (.d yL b)::(.c (.d yI e)::(.c (.d yI f)::(zd 9 [])))))))),(zo 19 [])⟩) fun st=>lC R pol_Z2 3 N [1,1,0,1,0,0] F_Z2 n st (kB R pol_Z2 0 (kS R pol_Z2 8 N [1,1,1] F_Z2 (qo8 E sg_Z2 F_Z2)))
theorem Z2.l0_succ(R:Run)(hw:R.ok)(N n:Nat)(a:Int)(b:List Int)(c d:Int):Z2.l0 R N (n+1) a b c d=(bif (decide (d<c)) then((idx? b d).bind fun y5=>(bif ((y5,()).1 != a) then some ⟨o_Z2,((y5,()).1,())⟩ else(Z2.l0 R N n a b c (w64 (d+1))))) else some ⟨o_Z2,(a,())⟩):=(hw _ _).trans (by kernel_rfl)
theorem Z2.ev(R:Run)(N:Nat)(a0:List Int):qos E R sg_Z2 pol_Z2 F_Z2 N [⟨yL,a0⟩]=(Z2.l0 R N N (0:Int) a0 (List.length a0:Int) (0:Int)):=by kernel_rfl
theorem Z17.ev(R:Run)(N:Nat)(a0 a1:List Int):qos E R sg_Z17 pol_Z17 F_Z17 N [⟨yL,a0⟩,⟨yL,a1⟩]=((qdp R n_Z0 o_Z0 [⟨yI,(List.length a0:Int)⟩,⟨yI,(List.length a1:Int)⟩]).bind fun r1=>((qdp R n_Z46 o_Z46 [⟨yL,a0⟩,⟨yL,a1⟩]).bind fun r2=>((qdp R n_Z2 o_Z2 [⟨yL,[r1.1,r2.1]⟩]).bind fun r3=>some ⟨o_Z17,(r3.1,())⟩))):=by kernel_rfl
def Z47.l1(R:Run)(N n:Nat)(a:vK)(b e:Int)(f:List Int):Option Dv:=R.w (some ⟨(zd 6 (.c (.arr 37)::(zd 18 (.c (.d yK a)::(.c (.d yI b)::(.c (.d yI e)::(zd 8 []))))))),(zo 37 (some (.arr yI f true false false)::[]))⟩) fun st=>lC R pol_Z47 11 N [1,1,1,1,0,1,0,0] F_Z47 n st (kB R pol_Z47 2 (kS R pol_Z47 15 N [1,1,1,1,1] F_Z47 (qo8 E sg_Z47 F_Z47)))
def Z47.l0(R:Run)(N n:Nat)(a:vK)(b:Int)(e:vK)(f g:Int):Option Dv:=R.w (some ⟨(.c (.d yK a)::(V.dead::(V.dead::(.c (.d yI b)::(zd 5 (.c (.d yK e)::(.c (.d yI f)::(.c (.d yI g)::(zd 24 []))))))))),(zo 38 [])⟩) fun st=>lC R pol_Z47 3 N [1,1,0,1,0,0] F_Z47 n st (kB R pol_Z47 0 (kS R pol_Z47 9 N [1,1,1] F_Z47 (qo8 E sg_Z47 F_Z47)))
theorem Z47.l1_succ(R:Run)(hw:R.ok)(N n:Nat)(a:vK)(b c:Int)(d:List Int):Z47.l1 R N (n+1) a b c d=(bif (decide (c<b)) then((idx? a c).bind fun y17=>((chk (decide ((List.length d+List.length (y17,()).1)*8≤70368744177664))).bind fun _=>(Z47.l1 R N n a b (w64 (c+1)) (d++(y17,()).1)))) else some ⟨o_Z47,(d,())⟩):=(hw _ _).trans (by kernel_rfl)
theorem Z47.l0_succ(R:Run)(hw:R.ok)(N n:Nat)(a:vK)(b:Int)(c:vK)(d e:Int):Z47.l0 R N (n+1) a b c d e=(bif (decide (e<d)) then((idx? c e).bind fun y6=>(bif (decide ((w64 (b+(List.length (y6,()).1:Int)))<(0:Int))) then none else(Z47.l0 R N n a (w64 (b+(List.length (y6,()).1:Int))) c d (w64 (e+1))))) else((qdp R n_Z54 o_Z54 [⟨yL,([]:List Int)⟩,⟨yI,b⟩]).bind fun r12=>(Z47.l1 R N N a (List.length a:Int) (0:Int) r12.1))):=(hw _ _).trans (by kernel_rfl)
theorem Z47.ev(R:Run)(N:Nat)(a0:vK):qos E R sg_Z47 pol_Z47 F_Z47 N [⟨yK,a0⟩]=(Z47.l0 R N N a0 (0:Int) a0 (List.length a0:Int) (0:Int)):=by kernel_rfl
def Z19.l0(R:Run)(N n:Nat)(a:List Int)(b e:Int)(f:vK):Option Dv:=R.w (some ⟨(.c (.d yL a)::(V.dead::(V.dead::(.c (.arr 24)::(V.dead::(V.dead::(.c (.d yI b)::(.c (.d yI e)::(zd 19 []))))))))),(zo 24 (some (.arr yL f true false false)::(zo 4 [])))⟩) fun st=>lC R pol_Z19 3 N [1,1,0,1,0,0] F_Z19 n st (kB R pol_Z19 0 (kS R pol_Z19 8 N [1,1,1] F_Z19 (qo8 E sg_Z19 F_Z19)))
theorem Z19.l0_succ(R:Run)(hw:R.ok)(N n:Nat)(a:List Int)(b c:Int)(d:vK):Z19.l0 R N (n+1) a b c d=(bif (decide (c<b)) then(bif (decide ((List.length a:Int)>(1:Int))) then((chk (decide (0≤c)&&decide (c≤(List.length a:Int)))).bind fun _=>((chk (decide (0≤(w64 (c+1)))&&decide ((w64 (c+1))≤(List.length a:Int)))).bind fun _=>((qdp R n_Z47 o_Z47 [⟨yK,[(List.take (Int.toNat c) a),(List.drop (Int.toNat (w64 (c+1))) a)]⟩]).bind fun r5=>((chk (decide ((List.length d+List.length [r5.1])*24≤70368744177664))).bind fun _=>(Z19.l0 R N n a b (w64 (c+1)) (d++[r5.1])))))) else(Z19.l0 R N n a b (w64 (c+1)) d)) else some ⟨o_Z19,(d,())⟩):=(hw _ _).trans (by kernel_rfl)
theorem Z19.ev(R:Run)(N:Nat)(a0:List Int):qos E R sg_Z19 pol_Z19 F_Z19 N [⟨yL,a0⟩]=(Z19.l0 R N N a0 (List.length a0:Int) (0:Int) ([]:List (List Int))):=by kernel_rfl
def Z42.l0(R:Run)(N n:Nat)(a:vK)(b:List Int)(e f g:Int):Option Dv:=R.w (some ⟨(.c (.d yK a)::(.c (.d yL b)::(.c (.d (.fn n_Z17 .nil) ())::(zd 5 (.c (.d yI e)::(.c (.d yI f)::(.c (.d yI g)::(zd 38 [])))))))),(zo 52 [])⟩) fun st=>lC R pol_Z41 3 N [1,1,1,0,0,0] F_Z41 n st (kB R pol_Z41 0 (kS R pol_Z41 8 N [1,1,1,1] F_Z41 (qo8 E sg_Z41 F_Z41)))
theorem Z42.l0_succ(R:Run)(hw:R.ok)(N n:Nat)(a:vK)(b:List Int)(c d e:Int):Z42.l0 R N (n+1) a b c d e=(bif (decide (d<e)) then((chk (decide (0≤(1:Int)))).bind fun _=>((idx? a (w64 ((Int.fdiv (IntKind.wrap .u64 ((w64 (d+e)))) (2 ^ (min (Int.toNat (1:Int)) (IntKind.bits .u64))))))).bind fun y6=>((qdp R n_Z17 o_Z17 [⟨yL,(y6,()).1⟩,⟨yL,b⟩]).bind fun r7=>(bif (decide (r7.1<(0:Int))) then(Z42.l0 R N n a b c (w64 ((w64 ((Int.fdiv (IntKind.wrap .u64 ((w64 (d+e)))) (2 ^ (min (Int.toNat (1:Int)) (IntKind.bits .u64))))))+(1:Int))) e) else(Z42.l0 R N n a b c d (w64 ((Int.fdiv (IntKind.wrap .u64 ((w64 (d+e)))) (2 ^ (min (Int.toNat (1:Int)) (IntKind.bits .u64))))))))))) else(bif (decide (d<c)) then((idx? a d).bind fun y18=>((qdp R n_Z17 o_Z17 [⟨yL,(y18,()).1⟩,⟨yL,b⟩]).bind fun r19=>some ⟨o_Z41,(d,(r19.1==(0:Int)),())⟩)) else some ⟨o_Z41,(d,false,())⟩)):=(hw _ _).trans (by kernel_rfl)
theorem Z42.ev(R:Run)(N:Nat)(a0:vK)(a1:List Int):qos E R sg_Z41 pol_Z41 F_Z41 N [⟨yK,a0⟩,⟨yL,a1⟩,⟨(.fn n_Z17 .nil),()⟩]=(Z42.l0 R N N a0 a1 (List.length a0:Int) (0:Int) (List.length a0:Int)):=by kernel_rfl
theorem Z24.ev(R:Run)(N:Nat)(a0:vK)(a1:List Int):qos E R sg_Z24 pol_Z24 F_Z24 N [⟨yK,a0⟩,⟨yL,a1⟩]=((qdp R n_Z41 o_Z41 [⟨yK,a0⟩,⟨yL,a1⟩,⟨(.fn n_Z17 .nil),()⟩]).bind fun r1=>(bif (!r1.2.1) then some ⟨o_Z24,((-1:Int),())⟩ else some ⟨o_Z24,(r1.1,())⟩)):=by kernel_rfl
theorem Z10.ev(R:Run)(N:Nat)(a0:List Int)(a1:(vK×Unit))(a2:(Int×Unit)):qos E R sg_Z10 pol_Z10 F_Z10 N [⟨yL,a0⟩,⟨(.ptr yC),a1⟩,⟨(.ptr (.cons yI .nil)),a2⟩]=((chk (decide (0≤a2.1)&&decide (a2.1≤(List.length a1.1:Int)))).bind fun _=>((qdp R n_Z24 o_Z24 [⟨yK,(List.take (Int.toNat a2.1) a1.1)⟩,⟨yL,a0⟩]).bind fun r1=>some ⟨o_Z10,((decide (r1.1<(0:Int))),())⟩)):=by kernel_rfl
def Z56.l0(R:Run)(N n:Nat)(a:vK)(b:((vK×Unit)×(Int×Unit)×Unit))(e f:Int):Option Dv:=R.w (some ⟨(.c (.d yK a)::(.c (.d (.fn n_Z10 (.cons (.ptr yC) (.cons (.ptr (.cons yI .nil)) .nil))) b)::(zd 5 (.c (.d yI e)::(.c (.d yI f)::(zd 10 [])))))),(zo 21 [])⟩) fun st=>q0_3 R N n st (kB R pol_Z55 0 (q0_2 R N (qo8 E sg_Z55 F_Z55)))
theorem Z56.l0_succ(R:Run)(hw:R.ok)(N n:Nat)(a:vK)(b:((vK×Unit)×(Int×Unit)×Unit))(c d:Int):Z56.l0 R N (n+1) a b c d=(bif (decide (d<c)) then((idx? a d).bind fun y5=>((qdp R n_Z10 o_Z10 [⟨yL,(y5,()).1⟩,⟨(.ptr yC),b.1⟩,⟨(.ptr (.cons yI .nil)),b.2.1⟩]).bind fun r6=>(bif r6.1 then some ⟨o_Z55,(d,())⟩ else(Z56.l0 R N n a b c (w64 (d+1)))))) else some ⟨o_Z55,((-1:Int),())⟩):=(hw _ _).trans (by kernel_rfl)
theorem Z56.ev(R:Run)(N:Nat)(a0:vK)(a1:((vK×Unit)×(Int×Unit)×Unit)):qos E R sg_Z55 pol_Z55 F_Z55 N [⟨yK,a0⟩,⟨(.fn n_Z10 (.cons (.ptr yC) (.cons (.ptr (.cons yI .nil)) .nil))),a1⟩]=(Z56.l0 R N N a0 a1 (List.length a0:Int) (0:Int)):=by kernel_rfl
theorem Z49.ev(R:Run)(N:Nat)(a0:vK)(a1:((vK×Unit)×(Int×Unit)×Unit)):qos E R sg_Z48 pol_Z48 F_Z48 N [⟨yK,a0⟩,⟨(.fn n_Z10 (.cons (.ptr yC) (.cons (.ptr (.cons yI .nil)) .nil))),a1⟩]=((qdp R n_Z55 o_Z55 [⟨yK,a0⟩,⟨(.fn n_Z10 (.cons (.ptr yC) (.cons (.ptr (.cons yI .nil)) .nil))),a1⟩]).bind fun r1=>some ⟨o_Z48,((decide (r1.1≥(0:Int))),())⟩):=by kernel_rfl
def Z9.j1(R:Run)(N a:Nat)(b:List Int)(e:vK)(f g:Int)(h:Bool)(i:vK)(j:Int):Option Dv:=R.w (some ⟨(V.dead::(.c (.box 1 0)::(V.dead::(.c (.box 3 0)::(.c (.d yL b)::(V.dead::(.c (.d yK e)::(.c (.d yI f)::(.c (.d yI g)::(zd 21 (.c (.d .bool h)::(zd 9 [])))))))))))),(none::(some (.box [.d yK i] true false)::(none::(some (.box [.d yI j] false false)::(zo 37 [])))))⟩) fun st=>eC R pol_Z9 N [1,0,1,0,0,1,1,0,0,1,0,1] F_Z9 st (kS R pol_Z9 6 N [1,0,1,0,0,1,1,0,0,1,1] F_Z9 (kB R pol_Z9 1 (kS R pol_Z9 8 N [1,0,1,0,0,1,1,1] F_Z9 (kL R pol_Z9 2 N [1,0,1,0,0] F_Z9 a (kB R pol_Z9 0 (kS R pol_Z9 9 N [1,1] F_Z9 (qo8 E sg_Z9 F_Z9)))))))
def Z9.l0(R:Run)(N n:Nat)(a:vK)(b e:Int)(f:vK):Option Dv:=R.w (some ⟨(V.dead::(.c (.box 1 0)::(zd 4 (.c (.d yK a)::(.c (.d yI b)::(.c (.d yI e)::(zd 31 []))))))),(none::(some (.box [.d yK f] true false)::(zo 39 [])))⟩) fun st=>lC R pol_Z9 2 N [1,0,1,0,0] F_Z9 n st (kB R pol_Z9 0 (kS R pol_Z9 9 N [1,1] F_Z9 (qo8 E sg_Z9 F_Z9)))
theorem Z9.j1_eq(R:Run)(hw:R.ok)(N a:Nat)(b:List Int)(c:vK)(d e:Int)(f:Bool)(g:vK)(h:Int):Z9.j1 R N a b c d e f g h=(bif f then some ⟨o_Z9,(false,())⟩ else((qdp R n_Z19 o_Z19 [⟨yL,b⟩]).bind fun r14=>((qdp R n_Z48 o_Z48 [⟨yK,r14.1⟩,⟨(.fn n_Z10 (.cons (.ptr yC) (.cons (.ptr (.cons yI .nil)) .nil))),((g,()),(h,()),())⟩]).bind fun r15=>(bif r15.1 then some ⟨o_Z9,(false,())⟩ else(Z9.l0 R N a c d (w64 (e+1)) g))))):=(hw _ _).trans (by kernel_rfl)
theorem Z9.l0_succ(R:Run)(hw:R.ok)(N n:Nat)(a:vK)(b c:Int)(d:vK):Z9.l0 R N (n+1) a b c d=(bif (decide (c<b)) then((idx? a c).bind fun y5=>((qdp R n_Z12 o_Z12 [⟨yL,(y5,()).1⟩]).bind fun r6=>(bif (!r6.1) then(Z9.j1 R N n ((y5,()).1) a b c true d c) else(bif (decide (c>(0:Int))) then((idx? d (w64 (c-1))).bind fun y20=>((qdp R n_Z17 o_Z17 [⟨yL,(y20,()).1⟩,⟨yL,(y5,()).1⟩]).bind fun r21=>(Z9.j1 R N n ((y5,()).1) a b c (decide (r21.1≥(0:Int))) d c))) else(Z9.j1 R N n ((y5,()).1) a b c false d c))))) else some ⟨o_Z9,((decide ((List.length d:Int)≤(48:Int))),())⟩):=(hw _ _).trans (by kernel_rfl)
theorem Z9.ev(R:Run)(N:Nat)(a0:vK):qos E R sg_Z9 pol_Z9 F_Z9 N [⟨yK,a0⟩]=(Z9.l0 R N N a0 (List.length a0:Int) (0:Int) a0):=by kernel_rfl
def Z35.l0(R:Run)(N n:Nat)(a:vK)(b e:Int)(f:List Int):Option Dv:=R.w (some ⟨(zd 3 (.c (.arr 21)::(zd 3 (.c (.d yK a)::(.c (.d yI b)::(.c (.d yI e)::(zd 14 []))))))),(zo 21 (some (.arr yI f true false false)::(zo 3 [])))⟩) fun st=>lC R pol_Z35 3 N [1,1,0,1,0,0] F_Z35 n st (kB R pol_Z35 0 (kS R pol_Z35 8 N [1,1,1] F_Z35 (qo8 E sg_Z35 F_Z35)))
theorem Z35.l0_succ(R:Run)(hw:R.ok)(N n:Nat)(a:vK)(b c:Int)(d:List Int):Z35.l0 R N (n+1) a b c d=(bif (decide (c<b)) then((idx? a c).bind fun y5=>(bif ((List.length (y5,()).1:Int)==(1:Int)) then((idx? (y5,()).1 (0:Int)).bind fun y6=>((chk (decide ((List.length d+List.length [(y6,()).1])*8≤70368744177664))).bind fun _=>(Z35.l0 R N n a b (w64 (c+1)) (d++[(y6,()).1])))) else(Z35.l0 R N n a b (w64 (c+1)) d))) else some ⟨o_Z35,(d,())⟩):=(hw _ _).trans (by kernel_rfl)
theorem Z35.ev(R:Run)(N:Nat)(a0:vK):qos E R sg_Z35 pol_Z35 F_Z35 N [⟨yK,a0⟩]=(Z35.l0 R N N a0 (List.length a0:Int) (0:Int) ([]:List Int)):=by kernel_rfl
def Z60.l0(R:Run)(N n:Nat)(a:List Int)(b e f:Int):Option Dv:=R.w (some ⟨(.c (.d yL a)::(.c (.d yI b)::(zd 5 (.c (.d yI e)::(.c (.d yI f)::(zd 10 [])))))),(zo 21 [])⟩) fun st=>lC R pol_Z60 2 N [1,0,1,0,0] F_Z60 n st (kB R pol_Z60 0 (kS R pol_Z60 7 N [1,1] F_Z60 (qo8 E sg_Z60 F_Z60)))
theorem Z60.l0_succ(R:Run)(hw:R.ok)(N n:Nat)(a:List Int)(b c d:Int):Z60.l0 R N (n+1) a b c d=(bif (decide (d<c)) then((idx? a d).bind fun y5=>(bif (b==(y5,()).1) then some ⟨o_Z60,(d,())⟩ else(Z60.l0 R N n a b c (w64 (d+1))))) else some ⟨o_Z60,((-1:Int),())⟩):=(hw _ _).trans (by kernel_rfl)
theorem Z60.ev(R:Run)(N:Nat)(a0:List Int)(a1:Int):qos E R sg_Z60 pol_Z60 F_Z60 N [⟨yL,a0⟩,⟨yI,a1⟩]=(Z60.l0 R N N a0 a1 (List.length a0:Int) (0:Int)):=by kernel_rfl
def Z22.l0(R:Run)(N n:Nat)(a b e:List Int)(f g:Int)(h:List Int):Option Dv:=R.w (some ⟨(V.dead::(.c (.d yL a)::(zd 5 (.c (.d yL b)::(.c (.arr 27)::(zd 4 (.c (.d yL e)::(.c (.d yI f)::(.c (.d yI g)::(zd 17 [])))))))))),(zo 27 (some (.arr yI h true false false)::(zo 9 [])))⟩) fun st=>lC R pol_Z22 4 N [1,1,1,0,1,0,0] F_Z22 n st (kB R pol_Z22 0 (kS R pol_Z22 8 N [1,1,1,1] F_Z22 (qo8 E sg_Z22 F_Z22)))
theorem Z22.l0_succ(R:Run)(hw:R.ok)(N n:Nat)(a b c:List Int)(d e:Int)(f:List Int):Z22.l0 R N (n+1) a b c d e f=(bif (decide (e<d)) then((idx? c e).bind fun y8=>((qdp R n_Z60 o_Z60 [⟨yL,b⟩,⟨yI,(y8,()).1⟩]).bind fun r9=>((idx? a r9.1).bind fun y10=>((chk (decide ((List.length f+List.length [(y10,()).1])*8≤70368744177664))).bind fun _=>(Z22.l0 R N n a b c d (w64 (e+1)) (f++[(y10,()).1])))))) else((qdp R n_Z62 o_Z62 [⟨yL,f⟩]).bind fun r17=>((qdp R n_Z45 o_Z45 [⟨yL,r17.1⟩]).bind fun r18=>some ⟨o_Z22,(r18.1,())⟩))):=(hw _ _).trans (by kernel_rfl)
theorem Z22.ev(R:Run)(N:Nat)(a0:vK)(a1 a2:List Int):qos E R sg_Z22 pol_Z22 F_Z22 N [⟨yK,a0⟩,⟨yL,a1⟩,⟨yL,a2⟩]=((qdp R n_Z35 o_Z35 [⟨yK,a0⟩]).bind fun r1=>(Z22.l0 R N N a1 r1.1 a2 (List.length a2:Int) (0:Int) ([]:List Int))):=by kernel_rfl
theorem Z28.ev(R:Run)(N:Nat)(a0:List Int)(a1 a2:(vK×Unit))(a3:((List Int)×Unit)):qos E R sg_Z28 pol_Z28 F_Z28 N [⟨yL,a0⟩,⟨(.ptr yC),a1⟩,⟨(.ptr yC),a2⟩,⟨(.ptr (.cons yL .nil)),a3⟩]=((qdp R n_Z22 o_Z22 [⟨yK,a2.1⟩,⟨yL,a3.1⟩,⟨yL,a0⟩]).bind fun r1=>((qdp R n_Z24 o_Z24 [⟨yK,a1.1⟩,⟨yL,r1.1⟩]).bind fun r2=>some ⟨o_Z28,((decide (r2.1<(0:Int))),())⟩)):=by kernel_rfl
def Z57.l0(R:Run)(N n:Nat)(a:vK)(b:((vK×Unit)×(vK×Unit)×((List Int)×Unit)×Unit))(e f:Int):Option Dv:=R.w (some ⟨(.c (.d yK a)::(.c (.d (.fn n_Z28 (.cons (.ptr yC) (.cons (.ptr yC) (.cons (.ptr (.cons yL .nil)) .nil)))) b)::(zd 5 (.c (.d yI e)::(.c (.d yI f)::(zd 10 [])))))),(zo 21 [])⟩) fun st=>q0_3 R N n st (kB R pol_Z55 0 (q0_2 R N (qo8 E sg_Z55 F_Z55)))
theorem Z57.l0_succ(R:Run)(hw:R.ok)(N n:Nat)(a:vK)(b:((vK×Unit)×(vK×Unit)×((List Int)×Unit)×Unit))(c d:Int):Z57.l0 R N (n+1) a b c d=(bif (decide (d<c)) then((idx? a d).bind fun y5=>((qdp R n_Z28 o_Z28 [⟨yL,(y5,()).1⟩,⟨(.ptr yC),b.1⟩,⟨(.ptr yC),b.2.1⟩,⟨(.ptr (.cons yL .nil)),b.2.2.1⟩]).bind fun r6=>(bif r6.1 then some ⟨o_Z55,(d,())⟩ else(Z57.l0 R N n a b c (w64 (d+1)))))) else some ⟨o_Z55,((-1:Int),())⟩):=(hw _ _).trans (by kernel_rfl)
theorem Z57.ev(R:Run)(N:Nat)(a0:vK)(a1:((vK×Unit)×(vK×Unit)×((List Int)×Unit)×Unit)):qos E R sg_Z55 pol_Z55 F_Z55 N [⟨yK,a0⟩,⟨(.fn n_Z28 (.cons (.ptr yC) (.cons (.ptr yC) (.cons (.ptr (.cons yL .nil)) .nil)))),a1⟩]=(Z57.l0 R N N a0 a1 (List.length a0:Int) (0:Int)):=by kernel_rfl
theorem Z50.ev(R:Run)(N:Nat)(a0:vK)(a1:((vK×Unit)×(vK×Unit)×((List Int)×Unit)×Unit)):qos E R sg_Z48 pol_Z48 F_Z48 N [⟨yK,a0⟩,⟨(.fn n_Z28 (.cons (.ptr yC) (.cons (.ptr yC) (.cons (.ptr (.cons yL .nil)) .nil)))),a1⟩]=((qdp R n_Z55 o_Z55 [⟨yK,a0⟩,⟨(.fn n_Z28 (.cons (.ptr yC) (.cons (.ptr yC) (.cons (.ptr (.cons yL .nil)) .nil)))),a1⟩]).bind fun r1=>some ⟨o_Z48,((decide (r1.1≥(0:Int))),())⟩):=by kernel_rfl
theorem Z27.ev(R:Run)(N:Nat)(a0 a1:vK)(a2:List Int):qos E R sg_Z27 pol_Z27 F_Z27 N [⟨yK,a0⟩,⟨yK,a1⟩,⟨yL,a2⟩]=((qdp R n_Z35 o_Z35 [⟨yK,a0⟩]).bind fun r1=>(bif ((List.length a2:Int) != (List.length r1.1:Int)) then some ⟨o_Z27,(false,())⟩ else((qdp R n_Z48 o_Z48 [⟨yK,a0⟩,⟨(.fn n_Z28 (.cons (.ptr yC) (.cons (.ptr yC) (.cons (.ptr (.cons yL .nil)) .nil)))),((a1,()),(a0,()),(a2,()),())⟩]).bind fun r2=>some ⟨o_Z27,((!r2.1),())⟩))):=by kernel_rfl
def Z31.j0(R:Run)(N:Nat)(a:List Int)(b:Bool)(e f:vK):Option Dv:=R.w (some ⟨(V.dead::(V.dead::(.c (.d yL a)::(.c (.box 3 0)::(.c (.box 4 0)::(V.dead::(V.dead::(.c (.d .bool b)::(zd 14 []))))))))),(zo 3 (some (.box [.d yK e] false false)::(some (.box [.d yK f] false false)::(zo 20 []))))⟩) fun st=>eC R pol_Z31 N [1,0,0,1] F_Z31 st (kB R pol_Z31 0 (kS R pol_Z31 5 N [1,1] F_Z31 (qo8 E sg_Z31 F_Z31)))
theorem Z31.j0_eq(R:Run)(hw:R.ok)(N:Nat)(a:List Int)(b:Bool)(c d:vK):Z31.j0 R N a b c d=(bif b then some ⟨o_Z31,((1:Int),())⟩ else((qdp R n_Z27 o_Z27 [⟨yK,c⟩,⟨yK,d⟩,⟨yL,a⟩]).bind fun r6=>(bif (!r6.1) then some ⟨o_Z31,((7:Int),())⟩ else some ⟨o_Z31,((0:Int),())⟩))):=(hw _ _).trans (by kernel_rfl)
theorem Z31.ev(R:Run)(N:Nat)(a0 a1:vK)(a2:List Int):qos E R sg_Z31 pol_Z31 F_Z31 N [⟨yK,a0⟩,⟨yK,a1⟩,⟨yL,a2⟩]=((qdp R n_Z9 o_Z9 [⟨yK,a0⟩]).bind fun r1=>(bif (!r1.1) then(Z31.j0 R N a2 true a0 a1) else((qdp R n_Z9 o_Z9 [⟨yK,a1⟩]).bind fun r7=>(Z31.j0 R N a2 (!r7.1) a0 a1)))):=by kernel_rfl
theorem Z26.ev(R:Run)(N:Nat)(a0:Int):qos E R sg_Z26 pol_Z26 F_Z26 N [⟨yI,a0⟩]=((qdp R n_Z36 o_Z36 [⟨yI,a0⟩,⟨yI,(0:Int)⟩,⟨yI,(3:Int)⟩]).bind fun r1=>some ⟨o_Z26,(r1.1,())⟩):=by kernel_rfl
theorem Z34.ev(R:Run)(N:Nat)(a0:List Int):qos E R sg_Z34 pol_Z34 F_Z34 N [⟨yL,a0⟩]=some ⟨o_Z34,((List.length a0:Int),())⟩:=by kernel_rfl
def Z32.l0(R:Run)(N n:Nat)(a:Int)(b:vK)(e f:Int)(g:List Int):Option Dv:=R.w (some ⟨(V.dead::(.c (.d yI a)::(zd 3 (.c (.arr 24)::(zd 3 (.c (.d yK b)::(.c (.d yI e)::(.c (.d yI f)::(zd 15 []))))))))),(zo 24 (some (.arr yI g true false false)::(zo 4 [])))⟩) fun st=>lC R pol_Z32 3 N [1,1,0,1,0,0] F_Z32 n st (kB R pol_Z32 0 (kS R pol_Z32 8 N [1,1,1] F_Z32 (qo8 E sg_Z32 F_Z32)))
theorem Z32.l0_succ(R:Run)(hw:R.ok)(N n:Nat)(a:Int)(b:vK)(c d:Int)(e:List Int):Z32.l0 R N (n+1) a b c d e=(bif (decide (d<c)) then((idx? b d).bind fun y6=>((qdp R n_Z34 o_Z34 [⟨yL,(y6,()).1⟩]).bind fun r7=>(bif (r7.1==(w64 (a+1))) then((chk (decide ((List.length e+List.length [d])*8≤70368744177664))).bind fun _=>(Z32.l0 R N n a b c (w64 (d+1)) (e++[d]))) else(Z32.l0 R N n a b c (w64 (d+1)) e)))) else some ⟨o_Z32,(e,())⟩):=(hw _ _).trans (by kernel_rfl)
theorem Z32.ev(R:Run)(N:Nat)(a0:vK)(a1:Int):qos E R sg_Z32 pol_Z32 F_Z32 N [⟨yK,a0⟩,⟨yI,a1⟩]=(Z32.l0 R N N a1 a0 (List.length a0:Int) (0:Int) ([]:List Int)):=by kernel_rfl
def Z16.j1(R:Run)(N a:Nat)(b e f:Int)(g:Bool)(h i:vK):Option Dv:=R.w (some ⟨(zd 3 (.c (.d yI b)::(V.dead::(.c (.d yI e)::(.c (.box 6 0)::(.c (.box 7 0)::(zd 6 (.c (.d yI f)::(zd 34 (.c (.d .bool g)::[])))))))))),(zo 6 (some (.box [.d yK h] false false)::(some (.box [.d yK i] false false)::(zo 48 []))))⟩) fun st=>eC R pol_Z16 N [1,1,1,1,0,1,0,0,1,0,0,1] F_Z16 st (kB R pol_Z16 1 (kS R pol_Z16 10 N [1,1,1,1,0,1,0,0,1,1] F_Z16 (kL R pol_Z16 9 N [1,1,1,1,0,1,0,0] F_Z16 a (kB R pol_Z16 0 (kS R pol_Z16 13 N [1,1,1,1,1] F_Z16 (qo8 E sg_Z16 F_Z16))))))
def Z16.l0(R:Run)(N n:Nat)(a b e:Int)(f g:vK):Option Dv:=R.w (some ⟨(zd 3 (.c (.d yI a)::(V.dead::(.c (.d yI b)::(.c (.box 6 0)::(.c (.box 7 0)::(zd 6 (.c (.d yI e)::(zd 35 []))))))))),(zo 6 (some (.box [.d yK f] false false)::(some (.box [.d yK g] false false)::(zo 48 []))))⟩) fun st=>lC R pol_Z16 9 N [1,1,1,1,0,1,0,0] F_Z16 n st (kB R pol_Z16 0 (kS R pol_Z16 13 N [1,1,1,1,1] F_Z16 (qo8 E sg_Z16 F_Z16)))
theorem Z16.j1_eq(R:Run)(hw:R.ok)(N a:Nat)(b c d:Int)(e:Bool)(f g:vK):Z16.j1 R N a b c d e f g=(bif e then some ⟨o_Z16,((5:Int),())⟩ else(Z16.l0 R N a b c (w64 (d+1)) f g)):=(hw _ _).trans (by kernel_rfl)
theorem Z16.l0_succ(R:Run)(hw:R.ok)(N n:Nat)(a b c:Int)(d e:vK):Z16.l0 R N (n+1) a b c d e=(bif (decide (c≤(w64 (a+b)))) then((qdp R n_Z32 o_Z32 [⟨yK,d⟩,⟨yI,c⟩]).bind fun r9=>(bif (decide ((List.length r9.1:Int)>(32:Int))) then(Z16.j1 R N n a b c true d e) else((qdp R n_Z32 o_Z32 [⟨yK,e⟩,⟨yI,c⟩]).bind fun r21=>(Z16.j1 R N n a b c (decide ((List.length r21.1:Int)>(32:Int))) d e)))) else some ⟨o_Z16,((0:Int),())⟩):=(hw _ _).trans (by kernel_rfl)
theorem Z16.ev(R:Run)(N:Nat)(a0 a1:vK)(a2:List Int)(a3 a4 a5:Int):qos E R sg_Z16 pol_Z16 F_Z16 N [⟨yK,a0⟩,⟨yK,a1⟩,⟨yL,a2⟩,⟨yI,a3⟩,⟨yI,a4⟩,⟨yI,a5⟩]=((qdp R n_Z11 o_Z11 [⟨yI,a4⟩]).bind fun r1=>(bif (!r1.1) then some ⟨o_Z16,((1:Int),())⟩ else((qdp R n_Z31 o_Z31 [⟨yK,a0⟩,⟨yK,a1⟩,⟨yL,a2⟩]).bind fun r2=>(bif (r2.1 != (0:Int)) then some ⟨o_Z16,(r2.1,())⟩ else((qdp R n_Z26 o_Z26 [⟨yI,a3⟩]).bind fun r3=>(bif (!r3.1) then some ⟨o_Z16,((2:Int),())⟩ else(Z16.l0 R N N a3 a5 (w64 (a3-a5)) a0 a1))))))):=by kernel_rfl
theorem Z38.ev(R:Run)(N:Nat)(a0 a1:Int):qos E R sg_Z38 pol_Z38 F_Z38 N [⟨yI,a0⟩,⟨yI,a1⟩]=some ⟨o_Z38,((0:Int),())⟩:=by kernel_rfl
end
end VeT
