import Derived.Test.YtagdejckmpipbaaGreatDoorV2
import Derived.Test.YtagdejckmpipbaaGreatDoorProg
import Derived.KernelRfl
set_option linter.unusedVariables false
set_option linter.unusedSimpArgs false
open Go Go.Proofs Ve
set_option maxRecDepth 100000
namespace VeT
abbrev yM : Ty := .cons (.int .i64) (.cons (.int .i64) (.cons (.int .i64) (.cons (.sl (.int .i64)) .nil)))
abbrev yI : Ty := .int .i64
abbrev yL : Ty := .sl yI
abbrev yK : Ty := .sl yL
abbrev yN : Ty := .sl (.st yM)
abbrev yS : Ty := .cons yK (.cons yI (.cons yL (.cons yN .nil)))
abbrev yR : Ty := .cons (.sl (.int .u8)) (.cons yI (.cons (.int .u64) .nil))
abbrev yC : Ty := .cons yK .nil
abbrev vM := Int × Int × Int × List Int × Unit
abbrev vK := List (List Int)
abbrev vN := List vM
abbrev vS := vK × Int × List Int × vN × Unit
noncomputable section
def bodyOf(f:Func):Code:=f.body.getD .skip
def zd:Nat→List Ve.V→List Ve.V
  | 0,t=>t
  | n+1,t=>V.dead::zd n t
def zo:Nat→List (Option Ve.Obj)→List (Option Ve.Obj)
  | 0,t=>t
  | n+1,t=>none::zo n t
abbrev n_Z50:Nat:=4
abbrev n_Z15:Nat:=9
abbrev n_Z56:Nat:=10
abbrev n_Z98:Nat:=11
abbrev n_Z14:Nat:=12
abbrev n_Z66:Nat:=13
abbrev n_Z61:Nat:=14
abbrev n_Z20:Nat:=36
abbrev n_Z7:Nat:=37
abbrev n_Z8:Nat:=38
abbrev n_Z9:Nat:=39
abbrev n_Z134:Nat:=40
abbrev n_Z51:Nat:=41
abbrev n_Z52:Nat:=42
abbrev n_Z55:Nat:=43
abbrev n_Z130:Nat:=44
abbrev n_Z135:Nat:=45
abbrev n_Z11:Nat:=46
abbrev n_Z12:Nat:=47
abbrev n_Z13:Nat:=48
abbrev n_Z27:Nat:=49
abbrev n_Z62:Nat:=50
abbrev n_Z63:Nat:=51
abbrev n_Z65:Nat:=52
abbrev n_Z57:Nat:=53
abbrev n_Z58:Nat:=54
abbrev n_Z60:Nat:=55
abbrev n_Z47:Nat:=61
abbrev n_Z125:Nat:=63
abbrev n_Z38:Nat:=65
abbrev n_Z116:Nat:=70
abbrev n_Z18:Nat:=71
abbrev n_Z49:Nat:=72
abbrev n_Z46:Nat:=73
abbrev n_Z31:Nat:=74
abbrev n_Z99:Nat:=82
abbrev n_Z131:Nat:=83
abbrev n_Z127:Nat:=84
abbrev n_Z129:Nat:=86
abbrev n_Z126:Nat:=87
abbrev n_Z105:Nat:=88
abbrev n_Z107:Nat:=89
abbrev n_Z16:Nat:=92
abbrev n_Z19:Nat:=93
abbrev n_Z25:Nat:=94
abbrev n_Z36:Nat:=95
abbrev n_Z33:Nat:=96
abbrev n_Z133:Nat:=97
abbrev n_Z76:Nat:=98
abbrev n_Z10:Nat:=99
abbrev n_Z42:Nat:=100
abbrev n_Z53:Nat:=104
abbrev n_Z54:Nat:=105
abbrev n_Z109:Nat:=106
abbrev n_Z122:Nat:=107
abbrev n_Z108:Nat:=108
abbrev n_Z97:Nat:=109
abbrev n_Z128:Nat:=110
abbrev n_Z111:Nat:=111
abbrev n_Z5:Nat:=113
abbrev n_Z45:Nat:=116
abbrev n_Z64:Nat:=117
abbrev n_Z59:Nat:=118
abbrev n_Z124:Nat:=124
abbrev n_Z104:Nat:=129
abbrev n_Z44:Nat:=130
abbrev n_Z101:Nat:=131
abbrev n_Z120:Nat:=132
abbrev n_Z39:Nat:=133
abbrev n_Z82:Nat:=134
abbrev n_Z88:Nat:=136
abbrev n_Z112:Nat:=139
abbrev n_Z118:Nat:=140
abbrev n_Z115:Nat:=141
abbrev n_Z41:Nat:=142
abbrev n_Z23:Nat:=143
abbrev n_Z32:Nat:=144
abbrev n_Z35:Nat:=145
abbrev n_Z34:Nat:=147
abbrev n_Z69:Nat:=148
abbrev n_Z123:Nat:=150
abbrev n_Z113:Nat:=151
abbrev n_Z110:Nat:=152
abbrev n_Z132:Nat:=153
abbrev n_Z117:Nat:=154
abbrev n_Z21:Nat:=155
abbrev n_Z29:Nat:=156
abbrev n_Z73:Nat:=157
abbrev n_Z17:Nat:=158
abbrev n_Z26:Nat:=159
abbrev n_Z48:Nat:=160
abbrev n_Z96:Nat:=164
abbrev n_Z106:Nat:=165
abbrev n_Z102:Nat:=166
abbrev n_Z6:Nat:=170
abbrev n_Z28:Nat:=171
abbrev n_Z114:Nat:=175
abbrev n_Z83:Nat:=187
abbrev n_Z100:Nat:=188
abbrev n_Z94:Nat:=189
abbrev n_Z24:Nat:=191
abbrev n_Z37:Nat:=192
abbrev n_Z72:Nat:=193
abbrev n_Z67:Nat:=194
abbrev n_Z30:Nat:=195
abbrev n_Z95:Nat:=196
abbrev n_Z70:Nat:=197
abbrev n_Z103:Nat:=198
abbrev n_Z119:Nat:=199
abbrev n_Z40:Nat:=200
abbrev n_Z22:Nat:=201
abbrev n_Z43:Nat:=202
abbrev n_Z2:Nat:=203
abbrev n_Z0:Nat:=204
abbrev n_Z71:Nat:=205
abbrev n_Z85:Nat:=206
abbrev n_Z121:Nat:=223
abbrev n_Z84:Nat:=230
abbrev n_Z3:Nat:=233
abbrev n_Z1:Nat:=234
abbrev n_Z4:Nat:=263
abbrev F_Z50:Func:=Tryz.f4
abbrev F_Z15:Func:=Tryz.f9
abbrev F_Z56:Func:=Tryz.f10
abbrev F_Z98:Func:=Tryz.f11
abbrev F_Z14:Func:=Tryz.f12
abbrev F_Z66:Func:=Tryz.f13
abbrev F_Z61:Func:=Tryz.f14
abbrev F_Z20:Func:=Tryz.f36
abbrev F_Z7:Func:=Tryz.f37
abbrev F_Z8:Func:=Tryz.f38
abbrev F_Z9:Func:=Tryz.f39
abbrev F_Z134:Func:=Tryz.f40
abbrev F_Z51:Func:=Tryz.f41
abbrev F_Z52:Func:=Tryz.f42
abbrev F_Z55:Func:=Tryz.f43
abbrev F_Z130:Func:=Tryz.f44
abbrev F_Z135:Func:=Tryz.f45
abbrev F_Z11:Func:=Tryz.f46
abbrev F_Z12:Func:=Tryz.f47
abbrev F_Z13:Func:=Tryz.f48
abbrev F_Z27:Func:=Tryz.f49
abbrev F_Z62:Func:=Tryz.f50
abbrev F_Z63:Func:=Tryz.f51
abbrev F_Z65:Func:=Tryz.f52
abbrev F_Z57:Func:=Tryz.f53
abbrev F_Z58:Func:=Tryz.f54
abbrev F_Z60:Func:=Tryz.f55
abbrev F_Z47:Func:=Tryz.f61
abbrev F_Z125:Func:=Tryz.f63
abbrev F_Z38:Func:=Tryz.f65
abbrev F_Z116:Func:=Tryz.f70
abbrev F_Z18:Func:=Tryz.f71
abbrev F_Z49:Func:=Tryz.f72
abbrev F_Z46:Func:=Tryz.f73
abbrev F_Z31:Func:=Tryz.f74
abbrev F_Z99:Func:=Tryz.f82
abbrev F_Z131:Func:=Tryz.f83
abbrev F_Z127:Func:=Tryz.f84
abbrev F_Z129:Func:=Tryz.f86
abbrev F_Z126:Func:=Tryz.f87
abbrev F_Z105:Func:=Tryz.f88
abbrev F_Z107:Func:=Tryz.f89
abbrev F_Z16:Func:=Tryz.f92
abbrev F_Z19:Func:=Tryz.f93
abbrev F_Z25:Func:=Tryz.f94
abbrev F_Z36:Func:=Tryz.f95
abbrev F_Z33:Func:=Tryz.f96
abbrev F_Z133:Func:=Tryz.f97
abbrev F_Z76:Func:=Tryz.f98
abbrev F_Z10:Func:=Tryz.f99
abbrev F_Z42:Func:=Tryz.f100
abbrev F_Z53:Func:=Tryz.f104
abbrev F_Z54:Func:=Tryz.f105
abbrev F_Z109:Func:=Tryz.f106
abbrev F_Z122:Func:=Tryz.f107
abbrev F_Z108:Func:=Tryz.f108
abbrev F_Z97:Func:=Tryz.f109
abbrev F_Z128:Func:=Tryz.f110
abbrev F_Z111:Func:=Tryz.f111
abbrev F_Z5:Func:=Tryz.f113
abbrev F_Z45:Func:=Tryz.f116
abbrev F_Z64:Func:=Tryz.f117
abbrev F_Z59:Func:=Tryz.f118
abbrev F_Z124:Func:=Tryz.f124
abbrev F_Z104:Func:=Tryz.f129
abbrev F_Z44:Func:=Tryz.f130
abbrev F_Z101:Func:=Tryz.f131
abbrev F_Z120:Func:=Tryz.f132
abbrev F_Z39:Func:=Tryz.f133
abbrev F_Z82:Func:=Tryz.f134
abbrev F_Z88:Func:=Tryz.f136
abbrev F_Z112:Func:=Tryz.f139
abbrev F_Z118:Func:=Tryz.f140
abbrev F_Z115:Func:=Tryz.f141
abbrev F_Z41:Func:=Tryz.f142
abbrev F_Z23:Func:=Tryz.f143
abbrev F_Z32:Func:=Tryz.f144
abbrev F_Z35:Func:=Tryz.f145
abbrev F_Z34:Func:=Tryz.f147
abbrev F_Z69:Func:=Tryz.f148
abbrev F_Z123:Func:=Tryz.f150
abbrev F_Z113:Func:=Tryz.f151
abbrev F_Z110:Func:=Tryz.f152
abbrev F_Z132:Func:=Tryz.f153
abbrev F_Z117:Func:=Tryz.f154
abbrev F_Z21:Func:=Tryz.f155
abbrev F_Z29:Func:=Tryz.f156
abbrev F_Z73:Func:=Tryz.f157
abbrev F_Z17:Func:=Tryz.f158
abbrev F_Z26:Func:=Tryz.f159
abbrev F_Z48:Func:=Tryz.f160
abbrev F_Z96:Func:=Tryz.f164
abbrev F_Z106:Func:=Tryz.f165
abbrev F_Z102:Func:=Tryz.f166
abbrev F_Z6:Func:=Tryz.f170
abbrev F_Z28:Func:=Tryz.f171
abbrev F_Z114:Func:=Tryz.f175
abbrev F_Z83:Func:=Tryz.f187
abbrev F_Z100:Func:=Tryz.f188
abbrev F_Z94:Func:=Tryz.f189
abbrev F_Z24:Func:=Tryz.f191
abbrev F_Z37:Func:=Tryz.f192
abbrev F_Z72:Func:=Tryz.f193
abbrev F_Z67:Func:=Tryz.f194
abbrev F_Z30:Func:=Tryz.f195
abbrev F_Z95:Func:=Tryz.f196
abbrev F_Z70:Func:=Tryz.f197
abbrev F_Z103:Func:=Tryz.f198
abbrev F_Z119:Func:=Tryz.f199
abbrev F_Z40:Func:=Tryz.f200
abbrev F_Z22:Func:=Tryz.f201
abbrev F_Z43:Func:=Tryz.f202
abbrev F_Z2:Func:=Tryz.f203
abbrev F_Z0:Func:=Tryz.f204
abbrev F_Z71:Func:=Tryz.f205
abbrev F_Z85:Func:=Tryz.f206
abbrev F_Z121:Func:=Tryz.f223
abbrev F_Z84:Func:=Tryz.f230
abbrev F_Z3:Func:=Tryz.f233
abbrev F_Z1:Func:=Tryz.f234
abbrev F_Z4:Func:=Tryz.f263
abbrev o_Z50:Ty:=(.cons .bool .nil)
def sg_Z50:Sig:=⟨[(false,1)],[],o_Z50,[(false,1)],[],[.str]⟩
abbrev o_Z15:Ty:=(.cons .str .nil)
def sg_Z15:Sig:=⟨[(true,4)],[],o_Z15,[(false,1)],[],[.str]⟩
abbrev o_Z56:Ty:=(.cons .bool .nil)
def sg_Z56:Sig:=⟨[(true,4),(true,4)],[],o_Z56,[(false,1)],[],[]⟩
abbrev o_Z98:Ty:=(.cons yK (.cons yI (.cons yL (.cons yN (.cons .bool .nil)))))
def sg_Z98:Sig:=⟨[(false,1)],[],o_Z98,[(true,4),(false,1)],[.deep,.imm,.deep,.deep,.imm],[]⟩
abbrev o_Z14:Ty:=(.cons yK (.cons yI (.cons yL (.cons yN (.cons .bool .nil)))))
def sg_Z14:Sig:=⟨[(false,1)],[],o_Z14,[(true,4),(false,1)],[.deep,.imm,.deep,.deep,.imm],[.str]⟩
abbrev o_Z66:Ty:=(.cons yI (.cons yK (.cons yL (.cons yN .nil))))
def sg_Z66:Sig:=⟨[(true,4),(false,1)],[.io true,.imm,.io true,.io true,.imm],o_Z66,[(false,1)],[],[]⟩
abbrev o_Z61:Ty:=(.cons yI .nil)
def sg_Z61:Sig:=⟨[(true,4),(false,1)],[],o_Z61,[(false,1)],[],[]⟩
abbrev o_Z20:Ty:=(.cons .bool .nil)
def sg_Z20:Sig:=⟨[(true,4)],[],o_Z20,[(false,1)],[],[]⟩
abbrev o_Z7:Ty:=(.cons .str .nil)
def sg_Z7:Sig:=⟨[(true,1)],[],o_Z7,[(false,1)],[],[.str]⟩
abbrev o_Z8:Ty:=(.cons .str .nil)
def sg_Z8:Sig:=⟨[(false,1)],[],o_Z8,[(false,1)],[],[]⟩
abbrev o_Z9:Ty:=(.cons .str .nil)
def sg_Z9:Sig:=⟨[(false,1)],[],o_Z9,[(false,1)],[],[.str]⟩
abbrev o_Z134:Ty:=(.cons .str .nil)
def sg_Z134:Sig:=⟨[(false,1),(false,1)],[],o_Z134,[(false,1)],[],[.str]⟩
abbrev o_Z51:Ty:=(.cons .bool .nil)
def sg_Z51:Sig:=⟨[(true,1),(true,1)],[],o_Z51,[(false,1)],[],[]⟩
abbrev o_Z52:Ty:=(.cons .bool .nil)
def sg_Z52:Sig:=⟨[(false,1),(false,1)],[],o_Z52,[(false,1)],[],[]⟩
abbrev o_Z55:Ty:=(.cons .bool .nil)
def sg_Z55:Sig:=⟨[(false,1),(false,1)],[],o_Z55,[(false,1)],[],[]⟩
abbrev o_Z130:Ty:=(.cons yK (.cons yI (.cons yL (.cons yN (.cons .bool .nil)))))
def sg_Z130:Sig:=⟨[(false,1)],[],o_Z130,[(true,4),(false,1)],[.deep,.imm,.deep,.deep,.imm],[]⟩
abbrev o_Z135:Ty:=(.cons (.sl .str) .nil)
def sg_Z135:Sig:=⟨[(false,1),(false,1)],[],o_Z135,[(false,1)],[.deep],[]⟩
abbrev o_Z11:Ty:=(.cons yK (.cons .bool .nil))
def sg_Z11:Sig:=⟨[(false,1)],[],o_Z11,[(true,1),(false,1)],[.deep,.imm],[.str]⟩
abbrev o_Z12:Ty:=(.cons yI (.cons .bool .nil))
def sg_Z12:Sig:=⟨[(false,1)],[],o_Z12,[(false,1),(false,1)],[],[.str]⟩
abbrev o_Z13:Ty:=(.cons yL (.cons .bool .nil))
def sg_Z13:Sig:=⟨[(false,1)],[],o_Z13,[(false,1),(false,1)],[.deep,.imm],[.str]⟩
abbrev o_Z27:Ty:=(.cons (.sl (.st (.cons yI (.cons yI (.cons yI .nil))))) .nil)
def sg_Z27:Sig:=⟨[(true,1)],[],o_Z27,[(false,1)],[.deep],[]⟩
abbrev o_Z62:Ty:=(.cons yI yC)
def sg_Z62:Sig:=⟨[(true,1),(false,1)],[.io true,.imm],o_Z62,[(false,1)],[],[]⟩
abbrev o_Z63:Ty:=(.cons yI (.cons yL .nil))
def sg_Z63:Sig:=⟨[(false,1),(false,1)],[.io true,.imm],o_Z63,[(false,1)],[],[]⟩
abbrev o_Z65:Ty:=(.cons yI (.cons yN .nil))
def sg_Z65:Sig:=⟨[(false,1),(false,1)],[.io true,.imm],o_Z65,[(false,1)],[],[]⟩
abbrev o_Z57:Ty:=(.cons yI .nil)
def sg_Z57:Sig:=⟨[(true,1),(false,1)],[],o_Z57,[(false,1)],[],[]⟩
abbrev o_Z58:Ty:=(.cons yI .nil)
def sg_Z58:Sig:=⟨[(false,1),(false,1)],[],o_Z58,[(false,1)],[],[]⟩
abbrev o_Z60:Ty:=(.cons yI .nil)
def sg_Z60:Sig:=⟨[(false,1),(false,1)],[],o_Z60,[(false,1)],[],[]⟩
abbrev o_Z47:Ty:=(.cons yI .nil)
def sg_Z47:Sig:=⟨[(true,4),(false,1)],[],o_Z47,[(false,1)],[],[]⟩
abbrev o_Z125:Ty:=(.cons yL .nil)
def sg_Z125:Sig:=⟨[(false,1),(false,1)],[],o_Z125,[(false,1)],[.deep],[(.ptr yC)]⟩
abbrev o_Z38:Ty:=(.cons .bool .nil)
def sg_Z38:Sig:=⟨[(false,1),(false,1)],[],o_Z38,[(false,1)],[],[]⟩
abbrev o_Z116:Ty:=(.cons yL .nil)
def sg_Z116:Sig:=⟨[(false,1),(false,1)],[],o_Z116,[(false,1)],[.deep],[(.ptr yC)]⟩
abbrev o_Z18:Ty:=(.cons .bool .nil)
def sg_Z18:Sig:=⟨[(true,4)],[],o_Z18,[(false,1)],[],[]⟩
abbrev o_Z49:Ty:=(.cons .bool .nil)
def sg_Z49:Sig:=⟨[(false,1),(false,1),(false,1)],[],o_Z49,[(false,1)],[],[]⟩
abbrev o_Z46:Ty:=(.cons yI .nil)
def sg_Z46:Sig:=⟨[(false,1)],[],o_Z46,[(false,1)],[],[]⟩
abbrev o_Z31:Ty:=(.cons yL .nil)
def sg_Z31:Sig:=⟨[(true,1),(false,1)],[],o_Z31,[(false,1)],[.deep],[]⟩
abbrev o_Z99:Ty:=(.cons .bool .nil)
def sg_Z99:Sig:=⟨[(false,1)],[],o_Z99,[(false,1)],[],[]⟩
abbrev o_Z131:Ty:=(.cons .bool .nil)
def sg_Z131:Sig:=⟨[(false,1),(false,1)],[],o_Z131,[(false,1)],[],[(.ptr yC)]⟩
abbrev o_Z127:Ty:=(.cons yI .nil)
def sg_Z127:Sig:=⟨[(false,1)],[],o_Z127,[(false,1)],[],[(.ptr yC)]⟩
abbrev o_Z129:Ty:=(.cons yI .nil)
def sg_Z129:Sig:=⟨[(false,1),(false,1),(false,1)],[],o_Z129,[(false,1)],[],[(.ptr yC)]⟩
abbrev o_Z126:Ty:=(.cons .str .nil)
def sg_Z126:Sig:=⟨[(false,1)],[],o_Z126,[(false,1)],[],[(.ptr yC)]⟩
abbrev o_Z105:Ty:=(.cons .str .nil)
def sg_Z105:Sig:=⟨[(false,1)],[],o_Z105,[(false,1)],[],[]⟩
abbrev o_Z107:Ty:=(.cons .str .nil)
def sg_Z107:Sig:=⟨[(false,1)],[],o_Z107,[(false,1)],[],[]⟩
abbrev o_Z16:Ty:=(.cons .bool .nil)
def sg_Z16:Sig:=⟨[(true,1)],[],o_Z16,[(false,1)],[],[]⟩
abbrev o_Z19:Ty:=(.cons .bool .nil)
def sg_Z19:Sig:=⟨[(false,1)],[],o_Z19,[(false,1)],[],[]⟩
abbrev o_Z25:Ty:=(.cons .bool .nil)
def sg_Z25:Sig:=⟨[(true,1),(false,1)],[],o_Z25,[(false,1)],[],[]⟩
abbrev o_Z36:Ty:=(.cons .bool .nil)
def sg_Z36:Sig:=⟨[(true,4),(false,1),(false,1),(false,1)],[],o_Z36,[(false,1)],[],[]⟩
abbrev o_Z33:Ty:=(.cons yL .nil)
def sg_Z33:Sig:=⟨[(true,1)],[],o_Z33,[(false,1)],[.deep],[]⟩
abbrev o_Z133:Ty:=(.cons .str .nil)
def sg_Z133:Sig:=⟨[(false,1),(false,1)],[],o_Z133,[(false,1)],[],[]⟩
abbrev o_Z76:Ty:=(.cons .bool .nil)
def sg_Z76:Sig:=⟨[(false,1),(false,1)],[],o_Z76,[(false,1)],[],[]⟩
abbrev o_Z10:Ty:=(.cons .bool .nil)
def sg_Z10:Sig:=⟨[(false,1)],[],o_Z10,[(false,1)],[],[]⟩
abbrev o_Z42:Ty:=(.cons .bool .nil)
def sg_Z42:Sig:=⟨[(false,1)],[],o_Z42,[(false,1)],[],[]⟩
abbrev o_Z53:Ty:=(.cons .bool .nil)
def sg_Z53:Sig:=⟨[(false,1),(false,1)],[],o_Z53,[(false,1)],[],[]⟩
abbrev o_Z54:Ty:=(.cons .bool .nil)
def sg_Z54:Sig:=⟨[(true,4),(true,4)],[],o_Z54,[(false,1)],[],[]⟩
abbrev o_Z109:Ty:=(.cons (.sl .str) .nil)
def sg_Z109:Sig:=⟨[(false,1),(false,1)],[],o_Z109,[(false,1)],[.deep],[]⟩
abbrev o_Z122:Ty:=(.cons yK (.cons .bool .nil))
def sg_Z122:Sig:=⟨[(false,1)],[],o_Z122,[(true,1),(false,1)],[.own,.imm],[]⟩
abbrev o_Z108:Ty:=(.cons yI (.cons .bool .nil))
def sg_Z108:Sig:=⟨[(false,1)],[],o_Z108,[(false,1),(false,1)],[],[]⟩
abbrev o_Z97:Ty:=(.cons yL (.cons .bool .nil))
def sg_Z97:Sig:=⟨[(false,1)],[],o_Z97,[(false,1),(false,1)],[.deep,.imm],[]⟩
abbrev o_Z128:Ty:=yS
def sg_Z128:Sig:=⟨[(false,1),(false,1),(false,1)],[],o_Z128,[(true,4)],[.deep,.imm,.deep,.deep],[(.ptr yC)]⟩
abbrev o_Z111:Ty:=(.cons .bool .nil)
def sg_Z111:Sig:=⟨[(false,1),(false,1),(false,1)],[],o_Z111,[(false,1)],[],[]⟩
abbrev o_Z5:Ty:=(.cons yK (.cons yI .nil))
def sg_Z5:Sig:=⟨[(false,1)],[],o_Z5,[(true,1),(false,1)],[.deep,.imm],[]⟩
abbrev o_Z45:Ty:=(.cons yI .nil)
def sg_Z45:Sig:=⟨[(false,1)],[],o_Z45,[(false,1)],[],[]⟩
abbrev o_Z64:Ty:=(.cons yI yC)
def sg_Z64:Sig:=⟨[(false,1),(false,1)],[.io true,.imm],o_Z64,[(false,1)],[],[]⟩
abbrev o_Z59:Ty:=(.cons yI .nil)
def sg_Z59:Sig:=⟨[(false,1),(false,1)],[],o_Z59,[(false,1)],[],[]⟩
abbrev o_Z124:Ty:=yC
def sg_Z124:Sig:=⟨[(false,1),(false,1)],[],o_Z124,[(true,1)],[.deep],[(.ptr yC)]⟩
abbrev o_Z104:Ty:=(.cons .bool .nil)
def sg_Z104:Sig:=⟨[(false,1),(false,1)],[],o_Z104,[(false,1)],[],[]⟩
abbrev o_Z44:Ty:=(.cons yL .nil)
def sg_Z44:Sig:=⟨[(true,1),(false,1)],[],o_Z44,[(false,1)],[.deep],[]⟩
abbrev o_Z101:Ty:=(.cons .bool .nil)
def sg_Z101:Sig:=⟨[(false,1),(false,1),(false,1)],[],o_Z101,[(false,1)],[],[]⟩
abbrev o_Z120:Ty:=(.cons .bool .nil)
def sg_Z120:Sig:=⟨[(false,1),(false,1)],[],o_Z120,[(false,1)],[],[]⟩
abbrev o_Z39:Ty:=(.cons .bool .nil)
def sg_Z39:Sig:=⟨[(false,1),(false,1)],[],o_Z39,[(false,1)],[],[.nil,(.ptr (.cons yL .nil))]⟩
abbrev o_Z82:Ty:=(.cons .bool .nil)
def sg_Z82:Sig:=⟨[(false,1),(false,1)],[],o_Z82,[(false,1)],[],[]⟩
abbrev o_Z88:Ty:=(.cons yI .nil)
def sg_Z88:Sig:=⟨[(false,1),(false,1)],[],o_Z88,[(false,1)],[],[]⟩
abbrev o_Z112:Ty:=yM
def sg_Z112:Sig:=⟨[(false,1),(false,1),(false,1)],[],o_Z112,[(true,4)],[.imm,.imm,.imm,.deep],[]⟩
abbrev o_Z118:Ty:=(.cons yI .nil)
def sg_Z118:Sig:=⟨[(false,1),(false,1)],[],o_Z118,[(false,1)],[],[(.ptr yC)]⟩
abbrev o_Z115:Ty:=(.cons yL .nil)
def sg_Z115:Sig:=⟨[(false,1),(false,1)],[],o_Z115,[(false,1)],[.deep],[]⟩
abbrev o_Z41:Ty:=(.cons .bool .nil)
def sg_Z41:Sig:=⟨[(false,1)],[],o_Z41,[(false,1)],[],[]⟩
abbrev o_Z23:Ty:=(.cons .bool .nil)
def sg_Z23:Sig:=⟨[(false,1),(false,1)],[],o_Z23,[(false,1)],[],[]⟩
abbrev o_Z32:Ty:=yC
def sg_Z32:Sig:=⟨[(false,1)],[],o_Z32,[(false,1)],[.deep],[]⟩
abbrev o_Z35:Ty:=(.cons yI .nil)
def sg_Z35:Sig:=⟨[(true,1),(false,1)],[],o_Z35,[(false,1)],[],[]⟩
abbrev o_Z34:Ty:=yC
def sg_Z34:Sig:=⟨[(false,1)],[],o_Z34,[(true,1)],[.deep],[]⟩
abbrev o_Z69:Ty:=(.cons yL .nil)
def sg_Z69:Sig:=⟨[(false,1)],[],o_Z69,[(false,1)],[.deep],[]⟩
abbrev o_Z123:Ty:=(.cons .bool .nil)
def sg_Z123:Sig:=⟨[(false,1)],[],o_Z123,[(false,1)],[],[]⟩
abbrev o_Z113:Ty:=(.cons .bool .nil)
def sg_Z113:Sig:=⟨[(false,1),(false,1)],[],o_Z113,[(false,1)],[],[]⟩
abbrev o_Z110:Ty:=(.cons .bool .nil)
def sg_Z110:Sig:=⟨[(false,1)],[],o_Z110,[(false,1)],[],[]⟩
abbrev o_Z132:Ty:=(.cons yI .nil)
def sg_Z132:Sig:=⟨[(false,1),(false,1),(false,1)],[],o_Z132,[(false,1)],[],[(.ptr yC)]⟩
abbrev o_Z117:Ty:=(.cons yL .nil)
def sg_Z117:Sig:=⟨[(false,1)],[],o_Z117,[(false,1)],[.deep],[(.ptr yC)]⟩
abbrev o_Z21:Ty:=(.cons .bool .nil)
def sg_Z21:Sig:=⟨[(false,1)],[],o_Z21,[(false,1)],[],[]⟩
abbrev o_Z29:Ty:=(.cons yI .nil)
def sg_Z29:Sig:=⟨[(false,1),(false,1)],[],o_Z29,[(false,1)],[],[]⟩
abbrev o_Z73:Ty:=(.cons .bool .nil)
def sg_Z73:Sig:=⟨[(false,1),(false,1)],[],o_Z73,[(false,1)],[],[]⟩
abbrev o_Z17:Ty:=(.cons .bool .nil)
def sg_Z17:Sig:=⟨[(false,1),(false,1),(false,1)],[],o_Z17,[(false,1)],[],[.nil,(.ptr yC),(.ptr (.cons yI .nil))]⟩
abbrev o_Z26:Ty:=(.cons .bool .nil)
def sg_Z26:Sig:=⟨[(false,1)],[],o_Z26,[(false,1)],[],[]⟩
abbrev o_Z48:Ty:=(.cons yL .nil)
def sg_Z48:Sig:=⟨[(true,1),(false,1)],[],o_Z48,[(false,1)],[.deep],[]⟩
abbrev o_Z96:Ty:=(.cons yK (.cons yI .nil))
def sg_Z96:Sig:=⟨[(false,1)],[],o_Z96,[(true,1),(false,1)],[.own,.imm],[]⟩
abbrev o_Z106:Ty:=(.cons .bool .nil)
def sg_Z106:Sig:=⟨[(false,1)],[],o_Z106,[(false,1)],[],[]⟩
abbrev o_Z102:Ty:=(.cons yL .nil)
def sg_Z102:Sig:=⟨[(false,1)],[],o_Z102,[(false,1)],[.deep],[]⟩
abbrev o_Z6:Ty:=(.cons .bool .nil)
def sg_Z6:Sig:=⟨[(false,1)],[],o_Z6,[(false,1)],[],[]⟩
abbrev o_Z28:Ty:=yC
def sg_Z28:Sig:=⟨[(false,1)],[],o_Z28,[(true,1)],[.deep],[]⟩
abbrev o_Z114:Ty:=yC
def sg_Z114:Sig:=⟨[(false,1)],[],o_Z114,[(true,1)],[.own],[]⟩
abbrev o_Z83:Ty:=(.cons .bool .nil)
def sg_Z83:Sig:=⟨[(false,1),(false,1)],[],o_Z83,[(false,1)],[],[]⟩
abbrev o_Z100:Ty:=(.cons .bool .nil)
def sg_Z100:Sig:=⟨[(false,1),(false,1)],[],o_Z100,[(false,1)],[],[]⟩
abbrev o_Z94:Ty:=(.cons yI .nil)
def sg_Z94:Sig:=⟨[(false,1),(false,1)],[],o_Z94,[(false,1)],[],[]⟩
abbrev o_Z24:Ty:=(.cons .bool .nil)
def sg_Z24:Sig:=⟨[(false,1),(false,1)],[],o_Z24,[(false,1)],[],[.nil,(.ptr (.cons yI .nil))]⟩
abbrev o_Z37:Ty:=(.cons .bool .nil)
def sg_Z37:Sig:=⟨[(false,1),(false,1)],[],o_Z37,[(false,1)],[],[]⟩
abbrev o_Z72:Ty:=(.cons yL .nil)
def sg_Z72:Sig:=⟨[(false,1)],[],o_Z72,[(false,1)],[.deep],[]⟩
abbrev o_Z67:Ty:=(.cons yI (.cons .bool .nil))
def sg_Z67:Sig:=⟨[(false,1),(false,1),(false,1)],[],o_Z67,[(false,1),(false,1)],[],[]⟩
abbrev o_Z30:Ty:=yC
def sg_Z30:Sig:=⟨[(false,1)],[],o_Z30,[(false,1)],[.deep],[]⟩
abbrev o_Z95:Ty:=yC
def sg_Z95:Sig:=⟨[(false,1),(false,1)],[.io true,.imm],o_Z95,[],[],[]⟩
abbrev o_Z70:Ty:=yC
def sg_Z70:Sig:=⟨[(false,1),(false,1)],[.take true,.imm],o_Z70,[(false,1)],[.deep],[]⟩
abbrev o_Z103:Ty:=(.cons .bool .nil)
def sg_Z103:Sig:=⟨[(false,1),(false,1),(false,1)],[],o_Z103,[(false,1)],[],[]⟩
abbrev o_Z119:Ty:=(.cons yL .nil)
def sg_Z119:Sig:=⟨[(false,1),(false,1)],[],o_Z119,[(false,1)],[.deep],[(.ptr yC)]⟩
abbrev o_Z40:Ty:=(.cons .bool .nil)
def sg_Z40:Sig:=⟨[(false,1)],[],o_Z40,[(false,1)],[],[]⟩
abbrev o_Z22:Ty:=(.cons .bool .nil)
def sg_Z22:Sig:=⟨[(false,1)],[],o_Z22,[(false,1)],[],[]⟩
abbrev o_Z43:Ty:=(.cons .bool .nil)
def sg_Z43:Sig:=⟨[(false,1)],[],o_Z43,[(false,1)],[],[]⟩
abbrev o_Z2:Ty:=(.cons yI .nil)
def sg_Z2:Sig:=⟨[(false,1)],[],o_Z2,[(false,1)],[],[]⟩
abbrev o_Z0:Ty:=(.cons yI .nil)
def sg_Z0:Sig:=⟨[(false,1),(false,1)],[],o_Z0,[(false,1)],[],[]⟩
abbrev o_Z71:Ty:=(.cons yI .nil)
def sg_Z71:Sig:=⟨[(false,1),(false,1)],[],o_Z71,[(false,1)],[],[]⟩
abbrev o_Z85:Ty:=(.cons yI .nil)
def sg_Z85:Sig:=⟨[(false,1),(false,1)],[],o_Z85,[(false,1)],[],[]⟩
abbrev o_Z121:Ty:=(.cons (.ptr yC) .nil)
def sg_Z121:Sig:=⟨[(false,1),(false,1)],[.iobo 0,.imm],o_Z121,[],[],[(.ptr yC)]⟩
abbrev o_Z84:Ty:=(.cons yL .nil)
def sg_Z84:Sig:=⟨[(false,1),(false,1)],[.take true,.imm],o_Z84,[(false,1)],[.deep],[]⟩
abbrev o_Z3:Ty:=(.cons .bool .nil)
def sg_Z3:Sig:=⟨[(false,1)],[],o_Z3,[(false,1)],[],[]⟩
abbrev o_Z1:Ty:=(.cons yI .nil)
def sg_Z1:Sig:=⟨[(false,1),(false,1)],[],o_Z1,[(false,1)],[],[]⟩
abbrev o_Z4:Ty:=(.cons .bool .nil)
def sg_Z4:Sig:=⟨[(false,1)],[],o_Z4,[(false,1)],[],[]⟩
def pol_Z50:Pol:=⟨70,[(21,[some 67,none,some 68,some 69])],[],[],[(1000032,⟨[0,3,4,5,32],[3,5,67,68,69],[],[],[],[],[]⟩),(1000057,⟨[5,7,57],[5,67,68,69],[],[],[],[],[]⟩)],[(0,fun _=>none)]⟩
def pol_Z15:Pol:=⟨39,[],[(5,⟨[3,20,21,22],[18],[],[],[],[],[]⟩)],[],[],[(0,fun _=>none)]⟩
def pol_Z56:Pol:=⟨36,[],[],[],[],[]⟩
def pol_Z98:Pol:=⟨12,[(5,[some 9,none,some 10,some 11])],[],[],[],[]⟩
def pol_Z14:Pol:=⟨119,[(23,[some 117]),(40,[some 118]),(79,[some 116])],[(12,⟨[0,2,4,7,66,67,68],[2,7,101,117,118],[],[(7,3,101,(.st yM),true)],[],[],[]⟩)],[],[(1000064,⟨[0,2,4,7,8,64],[2,7,117,118],[],[],[],[],[]⟩),(1000112,⟨[2,7,112],[2,7,101,117,118],[],[],[],[],[]⟩)],[(0,fun _=>none)]⟩
def pol_Z66:Pol:=⟨23,[],[],[],[],[]⟩
def pol_Z61:Pol:=⟨29,[],[],[],[],[]⟩
def pol_Z20:Pol:=⟨73,[],[(5,⟨[1,3,27,28,29],[1],[],[],[],[],[]⟩)],[],[(1000023,⟨[1,23],[1],[],[],[],[],[]⟩),(1000061,⟨[1,3,27,28,29,61],[1],[],[],[],[],[]⟩)],[]⟩
def pol_Z7:Pol:=⟨32,[],[(5,⟨[1,3,10,11,12],[1,24],[(3,24,.str,true)],[],[],[],[]⟩)],[],[],[(0,fun _=>none)]⟩
def pol_Z8:Pol:=⟨6,[],[],[],[],[]⟩
def pol_Z9:Pol:=⟨31,[],[(7,⟨[3,16,17,18],[26],[(3,26,.str,true)],[],[],[],[]⟩)],[],[(1000012,⟨[0,12],[],[],[],[],[],[]⟩)],[(0,fun _=>none)]⟩
def pol_Z51:Pol:=⟨13,[],[],[],[],[]⟩
def pol_Z52:Pol:=⟨28,[],[(4,⟨[0,1,5],[],[],[],[],[],[]⟩)],[],[],[]⟩
def pol_Z55:Pol:=⟨29,[],[(4,⟨[0,1,5],[],[],[],[],[],[]⟩)],[],[],[]⟩
def pol_Z130:Pol:=⟨117,[(72,[some 115,none,some 116,some 113]),(86,[some 114]),(98,[none])],[(11,⟨[2,4,7,11,12],[2,11,113,115,116],[],[],[],[],[]⟩)],[],[(1000068,⟨[2,4,5,7,9,68],[2,5],[],[],[],[],[]⟩),(1000103,⟨[2,4,7,11,12,13,103],[2,11,113,114,115,116],[],[],[],[],[]⟩)],[]⟩
def pol_Z11:Pol:=⟨48,[(22,[some 46]),(32,[some 47])],[(4,⟨[0,2,4,14,15,16],[2,28],[(4,28,yL,true)],[],[],[],[]⟩)],[],[(9,⟨[0,2,4],[2,28],[(4,28,yL,true)],[],[],[],[]⟩),(1000042,⟨[2,9,42],[2,9,47],[],[],[],[],[]⟩)],[(0,fun _=>none)]⟩
def pol_Z13:Pol:=⟨34,[],[(5,⟨[0,4,12,13,14],[26],[(4,26,yI,true)],[],[],[],[]⟩)],[],[],[(0,fun _=>none)]⟩
def pol_Z27:Pol:=⟨33,[],[(3,⟨[1,3,9,10],[1,28],[(3,28,(.st (.cons yI (.cons yI (.cons yI .nil)))),true)],[],[],[],[]⟩),(6,⟨[1,3,4,9,10,15,16,17],[1,28],[(3,28,(.st (.cons yI (.cons yI (.cons yI .nil)))),true)],[],[],[],[]⟩)],[],[],[]⟩
def pol_Z62:Pol:=⟨12,[],[],[],[],[]⟩
def pol_Z63:Pol:=⟨21,[],[(2,⟨[0,1,5],[19],[],[],[],[],[]⟩)],[],[],[]⟩
def pol_Z57:Pol:=⟨14,[],[],[],[],[]⟩
def pol_Z58:Pol:=⟨23,[],[(2,⟨[0,1,5],[],[],[],[],[],[]⟩)],[],[],[]⟩
def pol_Z60:Pol:=⟨51,[],[(2,⟨[0,1,5],[],[],[],[],[],[]⟩)],[],[],[]⟩
def pol_Z47:Pol:=⟨31,[],[(3,⟨[2,5,11,12,13],[2],[],[],[],[],[]⟩)],[],[],[]⟩
def pol_Z125:Pol:=⟨33,[],[(3,⟨[0,1,5,6],[7],[],[],[],[],[]⟩)],[],[],[]⟩
def pol_Z38:Pol:=⟨11,[],[],[],[],[]⟩
def pol_Z116:Pol:=⟨38,[],[(4,⟨[0,5,6,7],[15],[],[],[],[],[]⟩)],[],[(1000024,⟨[0,5,6,7,24],[15],[],[],[],[],[]⟩)],[]⟩
def pol_Z18:Pol:=⟨38,[],[],[],[],[]⟩
def pol_Z49:Pol:=⟨18,[],[],[],[],[]⟩
def pol_Z46:Pol:=⟨6,[],[],[],[],[]⟩
def pol_Z31:Pol:=⟨29,[],[(3,⟨[2,5,13,14,15],[2,24],[(5,24,yI,true)],[],[],[],[]⟩)],[],[],[]⟩
def pol_Z99:Pol:=⟨6,[],[],[],[],[]⟩
def pol_Z131:Pol:=⟨25,[],[(4,⟨[0,1,5],[],[],[],[],[],[]⟩)],[],[],[]⟩
def pol_Z127:Pol:=⟨11,[],[],[],[],[]⟩
def pol_Z129:Pol:=⟨39,[],[(3,⟨[0,1,2,7,8],[],[],[],[],[],[]⟩)],[],[],[]⟩
def pol_Z126:Pol:=⟨35,[],[(4,⟨[0,3,4,5],[],[],[],[],[],[]⟩)],[],[(8,⟨[0,3,4,5],[],[],[],[],[],[]⟩)],[]⟩
def pol_Z105:Pol:=⟨51,[],[(5,⟨[0,3,4],[10],[],[],[],[],[]⟩),(15,⟨[3,6,7],[10,33],[],[],[],[],[]⟩)],[],[(10,⟨[0,3,4,5],[10],[],[],[],[],[]⟩),(13,⟨[3],[10],[],[],[],[],[]⟩)],[]⟩
def pol_Z107:Pol:=⟨27,[],[(5,⟨[0,3,4],[],[],[],[],[],[]⟩)],[],[(9,⟨[0,3,4],[],[],[],[],[],[]⟩)],[]⟩
def pol_Z16:Pol:=⟨41,[],[(2,⟨[1,6,7,8],[1],[],[],[1],[],[]⟩)],[],[(1000030,⟨[1,3,4,6,7,8,30],[1,3],[],[],[],[],[]⟩)],[]⟩
def pol_Z19:Pol:=⟨19,[],[(4,⟨[0,3],[],[],[],[],[],[]⟩)],[],[],[]⟩
def pol_Z25:Pol:=⟨28,[],[(4,⟨[1,2,16],[2],[],[],[],[],[]⟩)],[],[(1000015,⟨[1,2,15],[2],[],[],[],[],[]⟩)],[]⟩
def pol_Z36:Pol:=⟨36,[],[],[],[],[]⟩
def pol_Z33:Pol:=⟨23,[],[(3,⟨[1,3,7,8],[1,19],[(3,19,yI,true)],[],[],[],[]⟩)],[],[],[]⟩
def pol_Z76:Pol:=⟨11,[],[],[],[],[]⟩
def pol_Z10:Pol:=⟨7,[],[],[],[],[]⟩
def pol_Z42:Pol:=⟨6,[],[],[],[],[]⟩
def pol_Z53:Pol:=⟨29,[],[(4,⟨[0,1,5],[],[],[],[],[],[]⟩)],[],[],[]⟩
def pol_Z54:Pol:=⟨34,[],[],[],[],[]⟩
def pol_Z109:Pol:=⟨37,[],[(4,⟨[0,1,5,6,7],[8],[],[],[],[],[]⟩)],[],[],[]⟩
def pol_Z122:Pol:=⟨56,[(29,[some 54]),(41,[some 55])],[(4,⟨[0,2,4,5,6],[2,13],[],[],[],[],[]⟩)],[],[(1000021,⟨[0,2,4,5,6,21],[2,13],[],[],[],[],[]⟩),(1000050,⟨[2,9,50],[2,9,55],[],[],[],[],[]⟩)],[]⟩
def pol_Z108:Pol:=⟨63,[],[(8,⟨[0,4,5,6],[],[],[],[],[],[]⟩)],[],[(4,⟨[0,4],[],[],[],[],[],[]⟩),(1000014,⟨[0,4,14],[],[],[],[],[],[]⟩),(1000036,⟨[0,4,36],[],[],[],[],[],[]⟩)],[]⟩
def pol_Z97:Pol:=⟨45,[],[(8,⟨[4,5,6],[17],[],[],[],[],[]⟩)],[],[(1000038,⟨[4,5,6,7,38],[17],[],[],[],[],[]⟩)],[]⟩
def pol_Z128:Pol:=⟨61,[(12,[some 59]),(15,[some 60]),(50,[none,none,none,some 58])],[(3,⟨[0,1,2,6,7,8],[6,7,16,59,60],[],[],[],[],[]⟩),(7,⟨[0,1,2,6,7,8,9,10],[6,7,16,59,60],[],[],[],[],[]⟩)],[],[],[]⟩
def pol_Z111:Pol:=⟨29,[],[(2,⟨[0,1,2,7],[],[],[],[],[],[]⟩)],[],[],[]⟩
def pol_Z5:Pol:=⟨22,[(13,[some 21])],[],[],[],[]⟩
def pol_Z45:Pol:=⟨6,[],[],[],[],[]⟩
def pol_Z59:Pol:=⟨23,[],[(2,⟨[0,1,5],[],[],[],[],[],[]⟩)],[],[],[]⟩
def pol_Z124:Pol:=⟨46,[(38,[some 45])],[(3,⟨[0,1,4,5,6],[4,5,7],[],[],[],[],[]⟩)],[],[],[]⟩
def pol_Z104:Pol:=⟨28,[],[(4,⟨[0,1,5],[],[],[],[],[],[]⟩)],[],[],[]⟩
def pol_Z44:Pol:=⟨29,[],[(3,⟨[1,5,9,10,11],[24],[(5,24,yI,true)],[],[],[],[]⟩)],[],[],[]⟩
def pol_Z101:Pol:=⟨18,[],[],[],[],[]⟩
def pol_Z120:Pol:=⟨21,[],[(2,⟨[0,1,5],[],[],[],[],[],[]⟩)],[],[],[]⟩
def pol_Z39:Pol:=⟨10,[],[],[],[],[]⟩
def pol_Z82:Pol:=⟨11,[],[],[],[],[]⟩
def pol_Z88:Pol:=⟨21,[],[(2,⟨[0,1,7,8],[],[],[],[],[],[]⟩)],[],[],[]⟩
def pol_Z112:Pol:=⟨18,[],[],[],[],[]⟩
def pol_Z118:Pol:=⟨27,[],[(2,⟨[0,1,5],[],[],[],[],[],[]⟩)],[],[],[]⟩
def pol_Z115:Pol:=⟨19,[(9,[some 18])],[],[],[],[]⟩
def pol_Z41:Pol:=⟨6,[],[],[],[],[]⟩
def pol_Z23:Pol:=⟨11,[],[],[],[],[]⟩
def pol_Z32:Pol:=⟨29,[(22,[some 28])],[(3,⟨[0,3,6,7],[24],[(3,24,yL,true)],[],[],[],[]⟩)],[],[],[]⟩
def pol_Z35:Pol:=⟨19,[],[],[],[],[]⟩
def pol_Z34:Pol:=⟨14,[(5,[some 12]),(9,[some 13])],[],[],[],[]⟩
def pol_Z69:Pol:=⟨9,[],[],[],[(1000004,⟨[0,4],[],[],[],[],[],[]⟩)],[]⟩
def pol_Z123:Pol:=⟨11,[],[],[],[],[]⟩
def pol_Z113:Pol:=⟨42,[],[(4,⟨[0,1,5],[],[],[],[],[],[]⟩)],[],[],[]⟩
def pol_Z110:Pol:=⟨19,[],[(4,⟨[0,3],[],[],[],[],[],[]⟩)],[],[],[]⟩
def pol_Z132:Pol:=⟨32,[],[(4,⟨[1,7,8,9],[],[],[],[],[],[]⟩)],[],[],[]⟩
def pol_Z117:Pol:=⟨32,[],[(3,⟨[0,3,4],[5],[],[],[],[],[]⟩)],[],[],[]⟩
def pol_Z21:Pol:=⟨21,[],[],[],[],[]⟩
def pol_Z29:Pol:=⟨17,[],[],[],[],[]⟩
def pol_Z73:Pol:=⟨11,[],[],[],[],[]⟩
def pol_Z17:Pol:=⟨16,[],[],[],[],[]⟩
def pol_Z26:Pol:=⟨7,[],[],[],[],[]⟩
def pol_Z48:Pol:=⟨31,[],[(3,⟨[1,2,5,9,10,11],[2,26],[(5,26,yI,true)],[],[],[],[]⟩)],[],[],[]⟩
def pol_Z96:Pol:=⟨33,[(24,[some 32])],[(2,⟨[0,2,4],[2],[],[],[],[],[]⟩)],[],[],[]⟩
def pol_Z106:Pol:=⟨10,[],[],[],[],[]⟩
def pol_Z102:Pol:=⟨7,[],[],[],[],[]⟩
def pol_Z6:Pol:=⟨7,[],[],[],[],[]⟩
def pol_Z28:Pol:=⟨26,[(6,[some 24]),(18,[some 23]),(21,[some 25])],[(3,⟨[2,3,4],[2,24],[],[],[],[24],[]⟩)],[],[],[]⟩
def pol_Z114:Pol:=⟨20,[],[(3,⟨[0,2,3,4],[2,3,5],[],[],[],[5],[]⟩)],[],[],[]⟩
def pol_Z83:Pol:=⟨28,[],[(4,⟨[0,1,12,13],[],[],[],[],[],[]⟩)],[],[],[]⟩
def pol_Z100:Pol:=⟨20,[],[(2,⟨[0,1,5],[],[],[],[],[],[]⟩)],[],[],[]⟩
def pol_Z94:Pol:=⟨21,[],[(2,⟨[0,1,7,8],[],[],[],[],[],[]⟩)],[],[],[]⟩
def pol_Z24:Pol:=⟨10,[],[],[],[],[]⟩
def pol_Z37:Pol:=⟨11,[],[],[],[],[]⟩
def pol_Z72:Pol:=⟨38,[(24,[some 37])],[(3,⟨[0,3,9,10,11],[],[],[],[],[],[]⟩),(11,⟨[6,25,26,27],[37],[],[],[],[],[]⟩)],[],[],[]⟩
def pol_Z67:Pol:=⟨52,[],[(3,⟨[0,1,2,8,9,10],[],[],[],[],[],[]⟩)],[],[],[]⟩
def pol_Z30:Pol:=⟨21,[(14,[some 20])],[(3,⟨[3,6,7,8],[16],[(3,16,yL,true)],[],[],[],[]⟩)],[],[],[]⟩
def pol_Z103:Pol:=⟨41,[],[(2,⟨[0,1,2,7],[],[],[],[],[],[]⟩)],[],[(1000037,⟨[0,1,2,7,37],[],[],[],[],[],[]⟩)],[]⟩
def pol_Z119:Pol:=⟨35,[],[(3,⟨[0,1,5,6],[7],[],[],[],[],[]⟩)],[],[],[]⟩
def pol_Z40:Pol:=⟨21,[],[(2,⟨[0,3],[],[],[],[],[],[]⟩)],[],[],[]⟩
def pol_Z22:Pol:=⟨7,[],[],[],[],[]⟩
def pol_Z43:Pol:=⟨6,[],[],[],[],[]⟩
def pol_Z2:Pol:=⟨19,[],[(3,⟨[3,6,7,8],[],[],[],[],[],[]⟩)],[],[],[]⟩
def pol_Z0:Pol:=⟨22,[],[],[],[],[]⟩
def pol_Z71:Pol:=⟨38,[],[(2,⟨[0,1,9,10,11],[],[],[],[],[],[]⟩)],[],[],[]⟩
def pol_Z85:Pol:=⟨21,[],[(2,⟨[0,1,7,8],[],[],[],[],[],[]⟩)],[],[],[]⟩
def pol_Z121:Pol:=⟨76,[(57,[some 75])],[(2,⟨[0,1,4],[71,73],[],[],[],[],[]⟩),(6,⟨[0,1,5],[71,73],[],[],[],[],[]⟩)],[],[(1000019,⟨[0,1,4,19],[71,73],[],[],[],[],[]⟩),(1000044,⟨[0,1,5,44],[71,73],[],[],[],[],[]⟩)],[]⟩
def pol_Z3:Pol:=⟨7,[],[],[],[],[]⟩
def pol_Z1:Pol:=⟨22,[],[],[],[],[]⟩
def pol_Z4:Pol:=⟨7,[],[],[],[],[]⟩
def sigL:List (Option Sig):=[none,none,none,none,some sg_Z50,none,none,none,none,some sg_Z15,some sg_Z56,some sg_Z98,some sg_Z14,some sg_Z66,some sg_Z61,none,none,none,none,none,none,none,none,none,none,none,none,none,none,none,none,none,none,none,none,none,some sg_Z20,some sg_Z7,some sg_Z8,some sg_Z9,some sg_Z134,some sg_Z51,some sg_Z52,some sg_Z55,some sg_Z130,some sg_Z135,some sg_Z11,some sg_Z12,some sg_Z13,some sg_Z27,some sg_Z62,some sg_Z63,some sg_Z65,some sg_Z57,some sg_Z58,some sg_Z60,none,none,none,none,none,some sg_Z47,none,some sg_Z125,none,some sg_Z38,none,none,none,none,some sg_Z116,some sg_Z18,some sg_Z49,some sg_Z46,some sg_Z31,none,none,none,none,none,none,none,some sg_Z99,some sg_Z131,some sg_Z127,none,some sg_Z129,some sg_Z126,some sg_Z105,some sg_Z107,none,none,some sg_Z16,some sg_Z19,some sg_Z25,some sg_Z36,some sg_Z33,some sg_Z133,some sg_Z76,some sg_Z10,some sg_Z42,none,none,none,some sg_Z53,some sg_Z54,some sg_Z109,some sg_Z122,some sg_Z108,some sg_Z97,some sg_Z128,some sg_Z111,none,some sg_Z5,none,none,some sg_Z45,some sg_Z64,some sg_Z59,none,none,none,none,none,some sg_Z124,none,none,none,none,some sg_Z104,some sg_Z44,some sg_Z101,some sg_Z120,some sg_Z39,some sg_Z82,none,some sg_Z88,none,none,some sg_Z112,some sg_Z118,some sg_Z115,some sg_Z41,some sg_Z23,some sg_Z32,some sg_Z35,none,some sg_Z34,some sg_Z69,none,some sg_Z123,some sg_Z113,some sg_Z110,some sg_Z132,some sg_Z117,some sg_Z21,some sg_Z29,some sg_Z73,some sg_Z17,some sg_Z26,some sg_Z48,none,none,none,some sg_Z96,some sg_Z106,some sg_Z102,none,none,none,some sg_Z6,some sg_Z28,none,none,none,some sg_Z114,none,none,none,none,none,none,none,none,none,none,none,some sg_Z83,some sg_Z100,some sg_Z94,none,some sg_Z24,some sg_Z37,some sg_Z72,some sg_Z67,some sg_Z30,some sg_Z95,some sg_Z70,some sg_Z103,some sg_Z119,some sg_Z40,some sg_Z22,some sg_Z43,some sg_Z2,some sg_Z0,some sg_Z71,some sg_Z85,none,none,none,none,none,none,none,none,none,none,none,none,none,none,none,none,some sg_Z121,none,none,none,none,none,none,some sg_Z84,none,none,some sg_Z3,some sg_Z1,none,none,none,none,none,none,none,none,none,none,none,none,none,none,none,none,none,none,none,none,none,none,none,none,none,none,none,none,some sg_Z4,none,none,none,none,none,none,none,none,none,none,none,none,none,none,none,none,none,none,none,none,none,none,none,none,none,none,none,none,none,none,none,none,none,none,none,none,none,none,none,none,none]
def fnL:List (Option (Func×Pol)):=[none,none,none,none,some (F_Z50,pol_Z50),none,none,none,none,some (F_Z15,pol_Z15),some (F_Z56,pol_Z56),some (F_Z98,pol_Z98),some (F_Z14,pol_Z14),some (F_Z66,pol_Z66),some (F_Z61,pol_Z61),none,none,none,none,none,none,none,none,none,none,none,none,none,none,none,none,none,none,none,none,none,some (F_Z20,pol_Z20),some (F_Z7,pol_Z7),some (F_Z8,pol_Z8),some (F_Z9,pol_Z9),none,some (F_Z51,pol_Z51),some (F_Z52,pol_Z52),some (F_Z55,pol_Z55),some (F_Z130,pol_Z130),none,some (F_Z11,pol_Z11),none,some (F_Z13,pol_Z13),some (F_Z27,pol_Z27),some (F_Z62,pol_Z62),some (F_Z63,pol_Z63),none,some (F_Z57,pol_Z57),some (F_Z58,pol_Z58),some (F_Z60,pol_Z60),none,none,none,none,none,some (F_Z47,pol_Z47),none,some (F_Z125,pol_Z125),none,some (F_Z38,pol_Z38),none,none,none,none,some (F_Z116,pol_Z116),some (F_Z18,pol_Z18),some (F_Z49,pol_Z49),some (F_Z46,pol_Z46),some (F_Z31,pol_Z31),none,none,none,none,none,none,none,some (F_Z99,pol_Z99),some (F_Z131,pol_Z131),some (F_Z127,pol_Z127),none,some (F_Z129,pol_Z129),some (F_Z126,pol_Z126),some (F_Z105,pol_Z105),some (F_Z107,pol_Z107),none,none,some (F_Z16,pol_Z16),some (F_Z19,pol_Z19),some (F_Z25,pol_Z25),some (F_Z36,pol_Z36),some (F_Z33,pol_Z33),none,some (F_Z76,pol_Z76),some (F_Z10,pol_Z10),some (F_Z42,pol_Z42),none,none,none,some (F_Z53,pol_Z53),some (F_Z54,pol_Z54),some (F_Z109,pol_Z109),some (F_Z122,pol_Z122),some (F_Z108,pol_Z108),some (F_Z97,pol_Z97),some (F_Z128,pol_Z128),some (F_Z111,pol_Z111),none,some (F_Z5,pol_Z5),none,none,some (F_Z45,pol_Z45),none,some (F_Z59,pol_Z59),none,none,none,none,none,some (F_Z124,pol_Z124),none,none,none,none,some (F_Z104,pol_Z104),some (F_Z44,pol_Z44),some (F_Z101,pol_Z101),some (F_Z120,pol_Z120),some (F_Z39,pol_Z39),some (F_Z82,pol_Z82),none,some (F_Z88,pol_Z88),none,none,some (F_Z112,pol_Z112),some (F_Z118,pol_Z118),some (F_Z115,pol_Z115),some (F_Z41,pol_Z41),some (F_Z23,pol_Z23),some (F_Z32,pol_Z32),some (F_Z35,pol_Z35),none,some (F_Z34,pol_Z34),some (F_Z69,pol_Z69),none,some (F_Z123,pol_Z123),some (F_Z113,pol_Z113),some (F_Z110,pol_Z110),some (F_Z132,pol_Z132),some (F_Z117,pol_Z117),some (F_Z21,pol_Z21),some (F_Z29,pol_Z29),some (F_Z73,pol_Z73),some (F_Z17,pol_Z17),some (F_Z26,pol_Z26),some (F_Z48,pol_Z48),none,none,none,some (F_Z96,pol_Z96),some (F_Z106,pol_Z106),some (F_Z102,pol_Z102),none,none,none,some (F_Z6,pol_Z6),some (F_Z28,pol_Z28),none,none,none,some (F_Z114,pol_Z114),none,none,none,none,none,none,none,none,none,none,none,some (F_Z83,pol_Z83),some (F_Z100,pol_Z100),some (F_Z94,pol_Z94),none,some (F_Z24,pol_Z24),some (F_Z37,pol_Z37),some (F_Z72,pol_Z72),some (F_Z67,pol_Z67),some (F_Z30,pol_Z30),none,none,some (F_Z103,pol_Z103),some (F_Z119,pol_Z119),some (F_Z40,pol_Z40),some (F_Z22,pol_Z22),some (F_Z43,pol_Z43),some (F_Z2,pol_Z2),some (F_Z0,pol_Z0),some (F_Z71,pol_Z71),some (F_Z85,pol_Z85),none,none,none,none,none,none,none,none,none,none,none,none,none,none,none,none,some (F_Z121,pol_Z121),none,none,none,none,none,none,none,none,none,some (F_Z3,pol_Z3),some (F_Z1,pol_Z1),none,none,none,none,none,none,none,none,none,none,none,none,none,none,none,none,none,none,none,none,none,none,none,none,none,none,none,none,some (F_Z4,pol_Z4),none,none,none,none,none,none,none,none,none,none,none,none,none,none,none,none,none,none,none,none,none,none,none,none,none,none,none,none,none,none,none,none,none,none,none,none,none,none,none,none,none]
def primL:List (Option (Run→List Dv→Option Dv)):=[none,none,none,none,none,none,none,none,none,none,none,none,none,none,none,none,none,none,none,none,none,none,none,none,none,none,none,none,none,none,none,none,none,none,none,none,none,none,none,none,some ql7,none,none,none,none,some qhN,none,some qdL,none,none,none,none,some (qfk n_Z63),none,none,none,none,none,none,none,none,none,none,none,none,none,none,none,none,none,none,none,none,none,none,none,none,none,none,none,none,none,none,none,none,none,none,none,none,none,none,none,none,none,none,none,none,some qpb,none,none,none,none,none,none,none,none,none,none,none,none,none,none,none,none,none,none,none,some (qfa n_Z63),none,none,none,none,none,none,none,none,none,none,none,none,none,none,none,none,none,none,none,none,none,none,none,none,none,none,none,none,none,none,none,none,none,none,none,none,none,none,none,none,none,none,none,none,none,none,none,none,none,none,none,none,none,none,none,none,none,none,none,none,none,none,none,none,none,none,none,none,none,none,none,none,none,none,none,none,none,none,some (qfs n_Z29),some (qbS n_Z83),none,none,none,none,none,none,none,none,none,none,none,none,none,none,none,none,none,none,none,none,none,none,none,none,none,none,none,none,none,none,none,none,some (qlU yI),none,none,none,none,none,none,none,none,none,none,none,none,none,none,none,none,none,none,none,none,none,none,none,none,none,none,none,none,none,none,none,none,none,none,none,none,none,none,none,none,none,none,none,none,none,none,none,none,none,none,none,none,none,none,none,none,none,none,none,none,none,none,none,none,none,none,none,none,none,none,none,none,none,none]
def gv(s:String):Nat:=(Tryz.prog.globalNamed s).getD 0
def gsL:Gls := [(gv "internal/strconv.uint64pow10", fun cs => cs = (Go.Lib.pow10Tab.map fun z => Value.int .u64 z).toArray), (gv "strconv.ErrSyntax", fun cs => ∃ tp p, cs = #[.iface tp p]), (gv "strconv.ErrRange", fun cs => ∃ tp p, cs = #[.iface tp p]), (gv "internal/bytealg.MaxLen", fun cs => ∃ m, cs[0]? = some (.int .i64 m))]
def E:Env:={ P:=Tryz.prog,fn:=fun f=>fnL.getD f none,prim:=fun f=>primL.getD f none,sig:=fun f=>sigL.getD f none,gs:=gsL }
theorem sig_laws_FnExactReadSheaf_eq:E.sig n_Z50=some sg_Z50:=rfl
abbrev RT(f:Nat)(s:Sig)(q:Pol)(F:Func):Prop:=∀ n args,run E (n+1) f args=qpj E (mkR (run E n)) s q F n args
theorem run_Z50:RT n_Z50 sg_Z50 pol_Z50 F_Z50:=fun _ _=>rfl
theorem run_Z15:RT n_Z15 sg_Z15 pol_Z15 F_Z15:=fun _ _=>rfl
theorem run_Z56:RT n_Z56 sg_Z56 pol_Z56 F_Z56:=fun _ _=>rfl
theorem run_Z98:RT n_Z98 sg_Z98 pol_Z98 F_Z98:=fun _ _=>rfl
theorem run_Z14:RT n_Z14 sg_Z14 pol_Z14 F_Z14:=fun _ _=>rfl
theorem run_Z66:RT n_Z66 sg_Z66 pol_Z66 F_Z66:=fun _ _=>rfl
theorem run_Z61:RT n_Z61 sg_Z61 pol_Z61 F_Z61:=fun _ _=>rfl
theorem run_Z20:RT n_Z20 sg_Z20 pol_Z20 F_Z20:=fun _ _=>rfl
theorem run_Z7:RT n_Z7 sg_Z7 pol_Z7 F_Z7:=fun _ _=>rfl
theorem run_Z8:RT n_Z8 sg_Z8 pol_Z8 F_Z8:=fun _ _=>rfl
theorem run_Z9:RT n_Z9 sg_Z9 pol_Z9 F_Z9:=fun _ _=>rfl
theorem sig_strings_Join_eq:E.sig n_Z134=some sg_Z134:=rfl
theorem run_Z51:RT n_Z51 sg_Z51 pol_Z51 F_Z51:=fun _ _=>rfl
theorem run_Z52:RT n_Z52 sg_Z52 pol_Z52 F_Z52:=fun _ _=>rfl
theorem run_Z55:RT n_Z55 sg_Z55 pol_Z55 F_Z55:=fun _ _=>rfl
theorem run_Z130:RT n_Z130 sg_Z130 pol_Z130 F_Z130:=fun _ _=>rfl
theorem sig_strings_Split_eq:E.sig n_Z135=some sg_Z135:=rfl
theorem run_Z11:RT n_Z11 sg_Z11 pol_Z11 F_Z11:=fun _ _=>rfl
theorem sig_impl_ReadDecimal_eq:E.sig n_Z12=some sg_Z12:=rfl
theorem run_Z13:RT n_Z13 sg_Z13 pol_Z13 F_Z13:=fun _ _=>rfl
theorem run_Z27:RT n_Z27 sg_Z27 pol_Z27 F_Z27:=fun _ _=>rfl
theorem run_Z62:RT n_Z62 sg_Z62 pol_Z62 F_Z62:=fun _ _=>rfl
theorem sig_laws_markInt64S_eq:E.sig n_Z63=some sg_Z63:=rfl
theorem run_Z63:RT n_Z63 sg_Z63 pol_Z63 F_Z63:=fun _ _=>rfl
theorem sig_laws_markMatrixS_eq:E.sig n_Z65=some sg_Z65:=rfl
theorem run_Z57:RT n_Z57 sg_Z57 pol_Z57 F_Z57:=fun _ _=>rfl
theorem run_Z58:RT n_Z58 sg_Z58 pol_Z58 F_Z58:=fun _ _=>rfl
theorem run_Z60:RT n_Z60 sg_Z60 pol_Z60 F_Z60:=fun _ _=>rfl
theorem run_Z47:RT n_Z47 sg_Z47 pol_Z47 F_Z47:=fun _ _=>rfl
theorem run_Z125:RT n_Z125 sg_Z125 pol_Z125 F_Z125:=fun _ _=>rfl
theorem run_Z38:RT n_Z38 sg_Z38 pol_Z38 F_Z38:=fun _ _=>rfl
theorem run_Z116:RT n_Z116 sg_Z116 pol_Z116 F_Z116:=fun _ _=>rfl
theorem run_Z18:RT n_Z18 sg_Z18 pol_Z18 F_Z18:=fun _ _=>rfl
theorem run_Z49:RT n_Z49 sg_Z49 pol_Z49 F_Z49:=fun _ _=>rfl
theorem run_Z46:RT n_Z46 sg_Z46 pol_Z46 F_Z46:=fun _ _=>rfl
theorem run_Z31:RT n_Z31 sg_Z31 pol_Z31 F_Z31:=fun _ _=>rfl
theorem run_Z99:RT n_Z99 sg_Z99 pol_Z99 F_Z99:=fun _ _=>rfl
theorem run_Z131:RT n_Z131 sg_Z131 pol_Z131 F_Z131:=fun _ _=>rfl
theorem run_Z127:RT n_Z127 sg_Z127 pol_Z127 F_Z127:=fun _ _=>rfl
theorem run_Z129:RT n_Z129 sg_Z129 pol_Z129 F_Z129:=fun _ _=>rfl
theorem run_Z126:RT n_Z126 sg_Z126 pol_Z126 F_Z126:=fun _ _=>rfl
theorem run_Z105:RT n_Z105 sg_Z105 pol_Z105 F_Z105:=fun _ _=>rfl
theorem run_Z107:RT n_Z107 sg_Z107 pol_Z107 F_Z107:=fun _ _=>rfl
theorem run_Z16:RT n_Z16 sg_Z16 pol_Z16 F_Z16:=fun _ _=>rfl
theorem run_Z19:RT n_Z19 sg_Z19 pol_Z19 F_Z19:=fun _ _=>rfl
theorem run_Z25:RT n_Z25 sg_Z25 pol_Z25 F_Z25:=fun _ _=>rfl
theorem run_Z36:RT n_Z36 sg_Z36 pol_Z36 F_Z36:=fun _ _=>rfl
theorem run_Z33:RT n_Z33 sg_Z33 pol_Z33 F_Z33:=fun _ _=>rfl
theorem sig_strconv_FormatInt_eq:E.sig n_Z133=some sg_Z133:=rfl
theorem run_Z76:RT n_Z76 sg_Z76 pol_Z76 F_Z76:=fun _ _=>rfl
theorem run_Z10:RT n_Z10 sg_Z10 pol_Z10 F_Z10:=fun _ _=>rfl
theorem run_Z42:RT n_Z42 sg_Z42 pol_Z42 F_Z42:=fun _ _=>rfl
theorem run_Z53:RT n_Z53 sg_Z53 pol_Z53 F_Z53:=fun _ _=>rfl
theorem run_Z54:RT n_Z54 sg_Z54 pol_Z54 F_Z54:=fun _ _=>rfl
theorem run_Z109:RT n_Z109 sg_Z109 pol_Z109 F_Z109:=fun _ _=>rfl
theorem run_Z122:RT n_Z122 sg_Z122 pol_Z122 F_Z122:=fun _ _=>rfl
theorem run_Z108:RT n_Z108 sg_Z108 pol_Z108 F_Z108:=fun _ _=>rfl
theorem run_Z97:RT n_Z97 sg_Z97 pol_Z97 F_Z97:=fun _ _=>rfl
theorem run_Z128:RT n_Z128 sg_Z128 pol_Z128 F_Z128:=fun _ _=>rfl
theorem run_Z111:RT n_Z111 sg_Z111 pol_Z111 F_Z111:=fun _ _=>rfl
theorem run_Z5:RT n_Z5 sg_Z5 pol_Z5 F_Z5:=fun _ _=>rfl
theorem run_Z45:RT n_Z45 sg_Z45 pol_Z45 F_Z45:=fun _ _=>rfl
theorem sig_laws_markInt64SS_eq:E.sig n_Z64=some sg_Z64:=rfl
theorem run_Z59:RT n_Z59 sg_Z59 pol_Z59 F_Z59:=fun _ _=>rfl
theorem run_Z124:RT n_Z124 sg_Z124 pol_Z124 F_Z124:=fun _ _=>rfl
theorem run_Z104:RT n_Z104 sg_Z104 pol_Z104 F_Z104:=fun _ _=>rfl
theorem run_Z44:RT n_Z44 sg_Z44 pol_Z44 F_Z44:=fun _ _=>rfl
theorem run_Z101:RT n_Z101 sg_Z101 pol_Z101 F_Z101:=fun _ _=>rfl
theorem run_Z120:RT n_Z120 sg_Z120 pol_Z120 F_Z120:=fun _ _=>rfl
theorem run_Z39:RT n_Z39 sg_Z39 pol_Z39 F_Z39:=fun _ _=>rfl
theorem run_Z82:RT n_Z82 sg_Z82 pol_Z82 F_Z82:=fun _ _=>rfl
theorem run_Z88:RT n_Z88 sg_Z88 pol_Z88 F_Z88:=fun _ _=>rfl
theorem run_Z112:RT n_Z112 sg_Z112 pol_Z112 F_Z112:=fun _ _=>rfl
theorem run_Z118:RT n_Z118 sg_Z118 pol_Z118 F_Z118:=fun _ _=>rfl
theorem run_Z115:RT n_Z115 sg_Z115 pol_Z115 F_Z115:=fun _ _=>rfl
theorem run_Z41:RT n_Z41 sg_Z41 pol_Z41 F_Z41:=fun _ _=>rfl
theorem run_Z23:RT n_Z23 sg_Z23 pol_Z23 F_Z23:=fun _ _=>rfl
theorem run_Z32:RT n_Z32 sg_Z32 pol_Z32 F_Z32:=fun _ _=>rfl
theorem run_Z35:RT n_Z35 sg_Z35 pol_Z35 F_Z35:=fun _ _=>rfl
theorem run_Z34:RT n_Z34 sg_Z34 pol_Z34 F_Z34:=fun _ _=>rfl
theorem run_Z69:RT n_Z69 sg_Z69 pol_Z69 F_Z69:=fun _ _=>rfl
theorem run_Z123:RT n_Z123 sg_Z123 pol_Z123 F_Z123:=fun _ _=>rfl
theorem run_Z113:RT n_Z113 sg_Z113 pol_Z113 F_Z113:=fun _ _=>rfl
theorem run_Z110:RT n_Z110 sg_Z110 pol_Z110 F_Z110:=fun _ _=>rfl
theorem run_Z132:RT n_Z132 sg_Z132 pol_Z132 F_Z132:=fun _ _=>rfl
theorem run_Z117:RT n_Z117 sg_Z117 pol_Z117 F_Z117:=fun _ _=>rfl
theorem run_Z21:RT n_Z21 sg_Z21 pol_Z21 F_Z21:=fun _ _=>rfl
theorem sig_impl_compareSimplices_eq:E.sig n_Z29=some sg_Z29:=rfl
theorem run_Z29:RT n_Z29 sg_Z29 pol_Z29 F_Z29:=fun _ _=>rfl
theorem run_Z73:RT n_Z73 sg_Z73 pol_Z73 F_Z73:=fun _ _=>rfl
theorem run_Z17:RT n_Z17 sg_Z17 pol_Z17 F_Z17:=fun _ _=>rfl
theorem run_Z26:RT n_Z26 sg_Z26 pol_Z26 F_Z26:=fun _ _=>rfl
theorem run_Z48:RT n_Z48 sg_Z48 pol_Z48 F_Z48:=fun _ _=>rfl
theorem run_Z96:RT n_Z96 sg_Z96 pol_Z96 F_Z96:=fun _ _=>rfl
theorem run_Z106:RT n_Z106 sg_Z106 pol_Z106 F_Z106:=fun _ _=>rfl
theorem run_Z102:RT n_Z102 sg_Z102 pol_Z102 F_Z102:=fun _ _=>rfl
theorem run_Z6:RT n_Z6 sg_Z6 pol_Z6 F_Z6:=fun _ _=>rfl
theorem run_Z28:RT n_Z28 sg_Z28 pol_Z28 F_Z28:=fun _ _=>rfl
theorem run_Z114:RT n_Z114 sg_Z114 pol_Z114 F_Z114:=fun _ _=>rfl
theorem run_Z83:RT n_Z83 sg_Z83 pol_Z83 F_Z83:=fun _ _=>rfl
theorem run_Z100:RT n_Z100 sg_Z100 pol_Z100 F_Z100:=fun _ _=>rfl
theorem run_Z94:RT n_Z94 sg_Z94 pol_Z94 F_Z94:=fun _ _=>rfl
theorem run_Z24:RT n_Z24 sg_Z24 pol_Z24 F_Z24:=fun _ _=>rfl
theorem run_Z37:RT n_Z37 sg_Z37 pol_Z37 F_Z37:=fun _ _=>rfl
theorem run_Z72:RT n_Z72 sg_Z72 pol_Z72 F_Z72:=fun _ _=>rfl
theorem run_Z67:RT n_Z67 sg_Z67 pol_Z67 F_Z67:=fun _ _=>rfl
theorem run_Z30:RT n_Z30 sg_Z30 pol_Z30 F_Z30:=fun _ _=>rfl
theorem sig_slices_SortFunc_SSint64_Sint64_eq:E.sig n_Z95=some sg_Z95:=rfl
theorem sig_slices_CompactFunc_SSint64_Sint64_eq:E.sig n_Z70=some sg_Z70:=rfl
theorem run_Z103:RT n_Z103 sg_Z103 pol_Z103 F_Z103:=fun _ _=>rfl
theorem run_Z119:RT n_Z119 sg_Z119 pol_Z119 F_Z119:=fun _ _=>rfl
theorem run_Z40:RT n_Z40 sg_Z40 pol_Z40 F_Z40:=fun _ _=>rfl
theorem run_Z22:RT n_Z22 sg_Z22 pol_Z22 F_Z22:=fun _ _=>rfl
theorem run_Z43:RT n_Z43 sg_Z43 pol_Z43 F_Z43:=fun _ _=>rfl
theorem run_Z2:RT n_Z2 sg_Z2 pol_Z2 F_Z2:=fun _ _=>rfl
theorem run_Z0:RT n_Z0 sg_Z0 pol_Z0 F_Z0:=fun _ _=>rfl
theorem run_Z71:RT n_Z71 sg_Z71 pol_Z71 F_Z71:=fun _ _=>rfl
theorem run_Z85:RT n_Z85 sg_Z85 pol_Z85 F_Z85:=fun _ _=>rfl
theorem run_Z121:RT n_Z121 sg_Z121 pol_Z121 F_Z121:=fun _ _=>rfl
theorem sig_slices_Grow_Sint64_int64_eq:E.sig n_Z84=some sg_Z84:=rfl
theorem run_Z3:RT n_Z3 sg_Z3 pol_Z3 F_Z3:=fun _ _=>rfl
theorem run_Z1:RT n_Z1 sg_Z1 pol_Z1 F_Z1:=fun _ _=>rfl
theorem run_Z4:RT n_Z4 sg_Z4 pol_Z4 F_Z4:=fun _ _=>rfl
abbrev eC(R:Run)(q:Pol)(N:Nat)(l:List Nat)(F:Func):=qa4 E R q N (sub l (bodyOf F))
abbrev kB(R:Run)(q:Pol)(k:Nat)(K:Kt):=qpr (qbD R q.blkM k) k K
abbrev kS(R:Run)(q:Pol)(k N:Nat)(l:List Nat)(F:Func)(K:Kt):=qpn (qbD R q.seqM k) (qa4 E R q N (sub l (bodyOf F))) K
abbrev kL(R:Run)(q:Pol)(k N:Nat)(l:List Nat)(F:Func)(n:Nat)(K:Kt):=qpN (qa4 E R q N (sub l (bodyOf F))) (qbD R q.loopM k) n K
abbrev lC(R:Run)(q:Pol)(k N:Nat)(l:List Nat)(F:Func)(n:Nat)(s:Ve.St)(K:Kt):=qkM (qa4 E R q N (sub l (bodyOf F))) (qbD R q.loopM k) n s K
end
end VeT

open Go Go.Proofs Ve
set_option maxRecDepth 100000
namespace VeT
noncomputable section
abbrev q0_0(R:Run)(N:Nat):=kS R pol_Z88 7 N [1,1] F_Z88
abbrev q0_1(R:Run)(N:Nat):=lC R pol_Z88 2 N [1,0,1,0,0] F_Z88
def Z109.l0(R:Run)(N n:Nat)(a:ByteArray)(b e f:Int)(g:(List ByteArray)):Option Dv:=R.w (some ⟨(.c (.d .str a)::(.c (.d (.int .u8) b)::(zd 3 (.c (.arr 8)::(.c (.d yI e)::(.c (.d yI f)::(zd 27 []))))))),(zo 8 (some (.arr .str g true false false)::(zo 28 [])))⟩) fun st=>lC R pol_Z109 4 N [1,1,1,0,1,0,0] F_Z109 n st (kB R pol_Z109 0 (kS R pol_Z109 9 N [1,1,1,1] F_Z109 (qpH E sg_Z109 F_Z109)))
theorem Z109.l0_succ(R:Run)(hw:R.ok)(N n:Nat)(a:ByteArray)(b c d:Int)(e:(List ByteArray)):Z109.l0 R N (n+1) a b c d e=(bif (decide (d<(ByteArray.size a:Int))) then((idx? (ByteArray.toList a) d).bind fun b6=>(bif ((UInt8.toNat b6:Int)==b) then((chk (decide (0≤c)&&decide (c≤d)&&decide (d≤(ByteArray.size a:Int)))).bind fun _=>((chk (decide ((List.length e+List.length [(ByteArray.extract a (Int.toNat c) (Int.toNat d))])*16≤70368744177664))).bind fun _=>(Z109.l0 R N n a b (w64 (d+1)) (w64 (d+1)) (e++[(ByteArray.extract a (Int.toNat c) (Int.toNat d))])))) else(Z109.l0 R N n a b c (w64 (d+1)) e))) else((chk (decide (0≤c)&&decide (c≤(ByteArray.size a:Int)))).bind fun _=>((chk (decide ((List.length e+List.length [(ByteArray.extract a (Int.toNat c) (ByteArray.size a))])*16≤70368744177664))).bind fun _=>some ⟨o_Z109,((e++[(ByteArray.extract a (Int.toNat c) (ByteArray.size a))]),())⟩))):=(hw _ _).trans (by kernel_rfl)
theorem Z109.ev(R:Run)(N:Nat)(a0:ByteArray)(a1:Int):qpj E R sg_Z109 pol_Z109 F_Z109 N [⟨.str,a0⟩,⟨(.int .u8),a1⟩]=(Z109.l0 R N N a0 a1 (0:Int) (0:Int) ([]:List ByteArray)):=by kernel_rfl
theorem Z106.ev(R:Run)(N:Nat)(a0:Int):qpj E R sg_Z106 pol_Z106 F_Z106 N [⟨(.int .u8),a0⟩]=(bif (decide (a0≥(48:Int))) then some ⟨o_Z106,((decide (a0≤(57:Int))),())⟩ else some ⟨o_Z106,(false,())⟩):=by kernel_rfl
def Z108.l3(R:Run)(N n:Nat)(a:ByteArray)(b e f:Int):Option Dv:=R.w (some ⟨(.c (.d .str a)::(zd 3 (.c (.d yI b)::(.c (.d yI e)::(.c (.d yI f)::(zd 55 [])))))),(zo 63 [])⟩) fun st=>lC R pol_Z108 8 N [1,1,1,1,1,0,1,0,0] F_Z108 n st (kB R pol_Z108 0 (kS R pol_Z108 13 N [1,1,1,1,1,1] F_Z108 (qpH E sg_Z108 F_Z108)))
def Z108.j2(R:Run)(N:Nat)(a:ByteArray)(b:Int)(e:Bool):Option Dv:=R.w (some ⟨(.c (.d .str a)::(zd 3 (.c (.d yI b)::(zd 31 (.c (.d .bool e)::(zd 25 [])))))),(zo 63 [])⟩) fun st=>eC R pol_Z108 N [1,1,1,0,1] F_Z108 st (kS R pol_Z108 6 N [1,1,1,1] F_Z108 (qpH E sg_Z108 F_Z108))
def Z108.j1(R:Run)(N:Nat)(a:ByteArray)(b:Int):Option Dv:=R.w (some ⟨(.c (.d .str a)::(zd 3 (.c (.d yI b)::(zd 57 [])))),(zo 63 [])⟩) fun st=>eC R pol_Z108 N [1,1,1] F_Z108 st (qpH E sg_Z108 F_Z108)
def Z108.j0(R:Run)(N:Nat)(a:ByteArray)(b:Int)(e:Bool):Option Dv:=R.w (some ⟨(.c (.d .str a)::(zd 3 (.c (.d yI b)::(zd 9 (.c (.d .bool e)::(zd 47 [])))))),(zo 63 [])⟩) fun st=>eC R pol_Z108 N [1,1,0,1] F_Z108 st (kS R pol_Z108 4 N [1,1,1] F_Z108 (qpH E sg_Z108 F_Z108))
theorem Z108.l3_succ(R:Run)(hw:R.ok)(N n:Nat)(a:ByteArray)(b c d:Int):Z108.l3 R N (n+1) a b c d=(bif (decide (d<(ByteArray.size a:Int))) then((idx? (ByteArray.toList a) d).bind fun b14=>((qdy R n_Z106 o_Z106 [⟨(.int .u8),(UInt8.toNat b14:Int)⟩]).bind fun r15=>(bif (!r15.1) then some ⟨o_Z108,((0:Int),false,())⟩ else((idx? (ByteArray.toList a) d).bind fun b16=>(Z108.l3 R N n a b (w64 ((w64 ((10:Int)*c))+(w64 ((IntKind.wrap .u8 ((UInt8.toNat b16:Int)-(48:Int))))))) (w64 (d+1))))))) else(bif (b==(1:Int)) then some ⟨o_Z108,((w64 (0-c)),true,())⟩ else some ⟨o_Z108,(c,true,())⟩)):=(hw _ _).trans (by kernel_rfl)
theorem Z108.j2_eq(R:Run)(hw:R.ok)(N:Nat)(a:ByteArray)(b:Int)(c:Bool):Z108.j2 R N a b c=(bif c then some ⟨o_Z108,((0:Int),false,())⟩ else(Z108.l3 R N N a b (0:Int) b)):=(hw _ _).trans (by kernel_rfl)
theorem Z108.j1_eq(R:Run)(hw:R.ok)(N:Nat)(a:ByteArray)(b:Int):Z108.j1 R N a b=(bif ((ByteArray.size a:Int)==b) then(Z108.j2 R N a b true) else(bif (decide ((w64 ((ByteArray.size a:Int)-b))>(18:Int))) then(Z108.j2 R N a b true) else((idx? (ByteArray.toList a) b).bind fun b24=>(bif ((UInt8.toNat b24:Int)==(48:Int)) then(Z108.j2 R N a b (decide ((ByteArray.size a:Int)>(1:Int)))) else(Z108.j2 R N a b false))))):=(hw _ _).trans (by kernel_rfl)
theorem Z108.j0_eq(R:Run)(hw:R.ok)(N:Nat)(a:ByteArray)(b:Int)(c:Bool):Z108.j0 R N a b c=(bif c then(Z108.j1 R N a (1:Int)) else(Z108.j1 R N a b)):=(hw _ _).trans (by kernel_rfl)
theorem Z108.ev(R:Run)(N:Nat)(a0:ByteArray):qpj E R sg_Z108 pol_Z108 F_Z108 N [⟨.str,a0⟩]=(bif (decide ((ByteArray.size a0:Int)>(0:Int))) then((idx? (ByteArray.toList a0) (0:Int)).bind fun b1=>(Z108.j0 R N a0 (0:Int) ((UInt8.toNat b1:Int)==(45:Int)))) else(Z108.j0 R N a0 (0:Int) false)):=by kernel_rfl
theorem Z101.ev(R:Run)(N:Nat)(a0 a1 a2:Int):qpj E R sg_Z101 pol_Z101 F_Z101 N [⟨yI,a0⟩,⟨yI,a1⟩,⟨yI,a2⟩]=(bif (decide (a0≥a1)) then some ⟨o_Z101,((decide (a0≤a2)),())⟩ else some ⟨o_Z101,(false,())⟩):=by kernel_rfl
def Z97.j1(R:Run)(N a:Nat)(b:(List ByteArray))(e f:Int)(g:Bool)(h:List Int):Option Dv:=R.w (some ⟨(zd 4 (.c (.d (.sl .str) b)::(.c (.arr 17)::(.c (.d yI e)::(.c (.d yI f)::(zd 30 (.c (.d .bool g)::(zd 5 [])))))))),(zo 17 (some (.arr yI h true false false)::(zo 27 [])))⟩) fun st=>eC R pol_Z97 N [1,1,1,1,1,0,1,0,0,1,0,0,1,0,1] F_Z97 st (kS R pol_Z97 13 N [1,1,1,1,1,0,1,0,0,1,0,0,1,1] F_Z97 (kB R pol_Z97 1 (kS R pol_Z97 9 N [1,1,1,1,1,0,1,0,0,1,1] F_Z97 (kL R pol_Z97 8 N [1,1,1,1,1,0,1,0,0] F_Z97 a (kB R pol_Z97 0 (kS R pol_Z97 14 N [1,1,1,1,1,1] F_Z97 (qpH E sg_Z97 F_Z97)))))))
def Z97.l0(R:Run)(N n:Nat)(a:(List ByteArray))(b:Int)(e:List Int):Option Dv:=R.w (some ⟨(zd 4 (.c (.d (.sl .str) a)::(.c (.arr 17)::(.c (.d yI b)::(zd 37 []))))),(zo 17 (some (.arr yI e true false false)::(zo 27 [])))⟩) fun st=>lC R pol_Z97 8 N [1,1,1,1,1,0,1,0,0] F_Z97 n st (kB R pol_Z97 0 (kS R pol_Z97 14 N [1,1,1,1,1,1] F_Z97 (qpH E sg_Z97 F_Z97)))
theorem Z97.j1_eq(R:Run)(hw:R.ok)(N a:Nat)(b:(List ByteArray))(c d:Int)(e:Bool)(f:List Int):Z97.j1 R N a b c d e f=(bif e then some ⟨o_Z97,(([]:List Int),false,())⟩ else((chk (decide ((List.length f+List.length [d])*8≤70368744177664))).bind fun _=>(Z97.l0 R N a b (w64 (c+1)) (f++[d])))):=(hw _ _).trans (by kernel_rfl)
theorem Z97.l0_succ(R:Run)(hw:R.ok)(N n:Nat)(a:(List ByteArray))(b:Int)(c:List Int):Z97.l0 R N (n+1) a b c=(bif (decide (b<(List.length a:Int))) then((idx? a b).bind fun y5=>((qdy R n_Z108 o_Z108 [⟨.str,(y5,()).1⟩]).bind fun r6=>(bif (!r6.2.1) then(Z97.j1 R N n a b r6.1 true c) else((qdy R n_Z101 o_Z101 [⟨yI,r6.1⟩,⟨yI,(-1000000000000:Int)⟩,⟨yI,(1000000000000:Int)⟩]).bind fun r15=>(Z97.j1 R N n a b r6.1 (!r15.1) c))))) else some ⟨o_Z97,(c,true,())⟩):=(hw _ _).trans (by kernel_rfl)
theorem Z97.ev(R:Run)(N:Nat)(a0:ByteArray):qpj E R sg_Z97 pol_Z97 F_Z97 N [⟨.str,a0⟩]=(bif (ByteArray.toList a0==ByteArray.toList (ByteArray.mk #[45])) then some ⟨o_Z97,(([]:List Int),true,())⟩ else((qdy R n_Z109 o_Z109 [⟨.str,a0⟩,⟨(.int .u8),(44:Int)⟩]).bind fun r1=>(bif (decide ((List.length r1.1:Int)>(64:Int))) then some ⟨o_Z97,(([]:List Int),false,())⟩ else(Z97.l0 R N N r1.1 (0:Int) ([]:List Int))))):=by kernel_rfl
def Z103.j1(R:Run)(N a:Nat)(b:List Int)(e f g:Int)(h:Bool):Option Dv:=R.w (some ⟨(.c (.d yL b)::(.c (.d yI e)::(.c (.d yI f)::(zd 4 (.c (.d yI g)::(zd 29 (.c (.d .bool h)::[]))))))),(zo 41 [])⟩) fun st=>eC R pol_Z103 N [1,0,1,0,0,1,0,0,1] F_Z103 st (kB R pol_Z103 1 (kS R pol_Z103 3 N [1,0,1,0,0,1,1] F_Z103 (kL R pol_Z103 2 N [1,0,1,0,0] F_Z103 a (kB R pol_Z103 0 (kS R pol_Z103 6 N [1,1] F_Z103 (qpH E sg_Z103 F_Z103))))))
def Z103.l0(R:Run)(N n:Nat)(a:List Int)(b e f:Int):Option Dv:=R.w (some ⟨(.c (.d yL a)::(.c (.d yI b)::(.c (.d yI e)::(zd 4 (.c (.d yI f)::(zd 30 [])))))),(zo 41 [])⟩) fun st=>lC R pol_Z103 2 N [1,0,1,0,0] F_Z103 n st (kB R pol_Z103 0 (kS R pol_Z103 6 N [1,1] F_Z103 (qpH E sg_Z103 F_Z103)))
theorem Z103.j1_eq(R:Run)(hw:R.ok)(N a:Nat)(b:List Int)(c d e:Int)(f:Bool):Z103.j1 R N a b c d e f=(bif f then some ⟨o_Z103,(false,())⟩ else(Z103.l0 R N a b c d (w64 (e+1)))):=(hw _ _).trans (by kernel_rfl)
theorem Z103.l0_succ(R:Run)(hw:R.ok)(N n:Nat)(a:List Int)(b c d:Int):Z103.l0 R N (n+1) a b c d=(bif (decide (d<(List.length a:Int))) then((idx? a d).bind fun y5=>((qdy R n_Z101 o_Z101 [⟨yI,(y5,()).1⟩,⟨yI,b⟩,⟨yI,c⟩]).bind fun r6=>(bif (!r6.1) then(Z103.j1 R N n a b c d true) else(bif (decide (d>(0:Int))) then((idx? a (w64 (d-1))).bind fun y16=>((idx? a d).bind fun y17=>(Z103.j1 R N n a b c d (decide ((y16,()).1≥(y17,()).1))))) else(Z103.j1 R N n a b c d false))))) else some ⟨o_Z103,(true,())⟩):=(hw _ _).trans (by kernel_rfl)
theorem Z103.ev(R:Run)(N:Nat)(a0:List Int)(a1 a2:Int):qpj E R sg_Z103 pol_Z103 F_Z103 N [⟨yL,a0⟩,⟨yI,a1⟩,⟨yI,a2⟩]=(Z103.l0 R N N a0 a1 a2 (0:Int)):=by kernel_rfl
theorem Z123.ev(R:Run)(N:Nat)(a0:List Int):qpj E R sg_Z123 pol_Z123 F_Z123 N [⟨yL,a0⟩]=((qdy R n_Z101 o_Z101 [⟨yI,(List.length a0:Int)⟩,⟨yI,(1:Int)⟩,⟨yI,(4:Int)⟩]).bind fun r1=>(bif r1.1 then((qdy R n_Z103 o_Z103 [⟨yL,a0⟩,⟨yI,(0:Int)⟩,⟨yI,(9:Int)⟩]).bind fun r2=>some ⟨o_Z123,(r2.1,())⟩) else some ⟨o_Z123,(false,())⟩)):=by kernel_rfl
def Z104.l0(R:Run)(N n:Nat)(a b:List Int)(e:Int):Option Dv:=R.w (some ⟨(.c (.d yL a)::(.c (.d yL b)::(zd 3 (.c (.d yI e)::(zd 20 []))))),(zo 28 [])⟩) fun st=>lC R pol_Z104 4 N [1,1,0,1,0,0] F_Z104 n st (kB R pol_Z104 0 (kS R pol_Z104 8 N [1,1,1] F_Z104 (qpH E sg_Z104 F_Z104)))
theorem Z104.l0_succ(R:Run)(hw:R.ok)(N n:Nat)(a b:List Int)(c:Int):Z104.l0 R N (n+1) a b c=(bif (decide (c<(List.length a:Int))) then((idx? a c).bind fun y4=>((idx? b c).bind fun y5=>(bif ((y4,()).1 != (y5,()).1) then some ⟨o_Z104,(false,())⟩ else(Z104.l0 R N n a b (w64 (c+1)))))) else some ⟨o_Z104,(true,())⟩):=(hw _ _).trans (by kernel_rfl)
theorem Z104.ev(R:Run)(N:Nat)(a0 a1:List Int):qpj E R sg_Z104 pol_Z104 F_Z104 N [⟨yL,a0⟩,⟨yL,a1⟩]=(bif ((List.length a0:Int) != (List.length a1:Int)) then some ⟨o_Z104,(false,())⟩ else(Z104.l0 R N N a0 a1 (0:Int))):=by kernel_rfl
def Z118.l0(R:Run)(N n:Nat)(a:(vK×Unit))(b:List Int)(e:Int):Option Dv:=R.w (some ⟨(.c (.ip yC a 0)::(.c (.d yL b)::(zd 3 (.c (.d yI e)::(zd 19 []))))),(zo 27 [])⟩) fun st=>lC R pol_Z118 2 N [1,0,1,0,0] F_Z118 n st (kB R pol_Z118 0 (kS R pol_Z118 6 N [1,1] F_Z118 (qpH E sg_Z118 F_Z118)))
theorem Z118.l0_succ(R:Run)(hw:R.ok)(N n:Nat)(a:(vK×Unit))(b:List Int)(c:Int):Z118.l0 R N (n+1) a b c=(bif (decide (c<(List.length a.1:Int))) then((idx? a.1 c).bind fun y4=>((qdy R n_Z104 o_Z104 [⟨yL,(y4,()).1⟩,⟨yL,b⟩]).bind fun r5=>(bif r5.1 then some ⟨o_Z118,(c,())⟩ else(Z118.l0 R N n a b (w64 (c+1)))))) else some ⟨o_Z118,((-1:Int),())⟩):=(hw _ _).trans (by kernel_rfl)
theorem Z118.ev(R:Run)(N:Nat)(a0:(vK×Unit))(a1:List Int):qpj E R sg_Z118 pol_Z118 F_Z118 N [⟨(.ptr yC),a0⟩,⟨yL,a1⟩]=(Z118.l0 R N N a0 a1 (0:Int)):=by kernel_rfl
theorem Z102.ev(R:Run)(N:Nat)(a0:List Int):qpj E R sg_Z102 pol_Z102 F_Z102 N [⟨yL,a0⟩]=((chk (decide ((List.length ([]:List Int)+List.length a0)*8≤70368744177664))).bind fun _=>some ⟨o_Z102,((([]:List Int)++a0),())⟩):=by kernel_rfl
theorem Z115.ev(R:Run)(N:Nat)(a0:List Int)(a1:Int):qpj E R sg_Z115 pol_Z115 F_Z115 N [⟨yL,a0⟩,⟨yI,a1⟩]=((chk (decide (0≤a1)&&decide (a1≤(List.length a0:Int)))).bind fun _=>((qdy R n_Z102 o_Z102 [⟨yL,(List.take (Int.toNat a1) a0)⟩]).bind fun r1=>((chk (decide (0≤(w64 (a1+1)))&&decide ((w64 (a1+1))≤(List.length a0:Int)))).bind fun _=>((chk (decide ((List.length r1.1+List.length (List.drop (Int.toNat (w64 (a1+1))) a0))*8≤70368744177664))).bind fun _=>some ⟨o_Z115,((r1.1++(List.drop (Int.toNat (w64 (a1+1))) a0)),())⟩)))):=by kernel_rfl
def Z113.l0(R:Run)(N n:Nat)(a b:List Int)(e:Int):Option Dv:=R.w (some ⟨(.c (.d yL a)::(.c (.d yL b)::(zd 3 (.c (.d yI e)::(zd 34 []))))),(zo 42 [])⟩) fun st=>lC R pol_Z113 4 N [1,1,0,1,0,0] F_Z113 n st (kB R pol_Z113 0 (kS R pol_Z113 8 N [1,1,1] F_Z113 (qpH E sg_Z113 F_Z113)))
theorem Z113.l0_succ(R:Run)(hw:R.ok)(N n:Nat)(a b:List Int)(c:Int):Z113.l0 R N (n+1) a b c=(bif (decide (c<(List.length a:Int))) then((idx? a c).bind fun y4=>((idx? b c).bind fun y5=>(bif ((y4,()).1 != (y5,()).1) then((idx? a c).bind fun y6=>((idx? b c).bind fun y7=>some ⟨o_Z113,((decide ((y6,()).1<(y7,()).1)),())⟩)) else(Z113.l0 R N n a b (w64 (c+1)))))) else some ⟨o_Z113,(false,())⟩):=(hw _ _).trans (by kernel_rfl)
theorem Z113.ev(R:Run)(N:Nat)(a0 a1:List Int):qpj E R sg_Z113 pol_Z113 F_Z113 N [⟨yL,a0⟩,⟨yL,a1⟩]=(bif ((List.length a0:Int) != (List.length a1:Int)) then some ⟨o_Z113,((decide ((List.length a0:Int)<(List.length a1:Int))),())⟩ else(Z113.l0 R N N a0 a1 (0:Int))):=by kernel_rfl
def Z121.j3(R:Run)(N a:Nat)(b:List Int)(e:Int)(f:Bool)(g:vK):Option Dv:=R.w (some ⟨(.c (.box 71 0)::(.c (.d yL b)::(zd 3 (.c (.d yI e)::(zd 38 (.c (.d .bool f)::(zd 26 []))))))),(zo 71 (some (.box [.arr 73] false true)::(none::(some (.arr yL g false false false)::(none::(none::[]))))))⟩) fun st=>eC R pol_Z121 N [1,1,1,0,0,0,0,1] F_Z121 st (kS R pol_Z121 7 N [1,1,1,0,0,0,1] F_Z121 (kL R pol_Z121 6 N [1,1,1,0,0,0] F_Z121 a (kB R pol_Z121 2 (kS R pol_Z121 8 N [1,1,1,1] F_Z121 (qpH E sg_Z121 F_Z121)))))
def Z121.l2(R:Run)(N n:Nat)(a:List Int)(b:Int)(e:vK):Option Dv:=R.w (some ⟨(.c (.box 71 0)::(.c (.d yL a)::(zd 3 (.c (.d yI b)::(zd 65 []))))),(zo 71 (some (.box [.arr 73] false true)::(none::(some (.arr yL e false false false)::(none::(none::[]))))))⟩) fun st=>lC R pol_Z121 6 N [1,1,1,0,0,0] F_Z121 n st (kB R pol_Z121 2 (kS R pol_Z121 8 N [1,1,1,1] F_Z121 (qpH E sg_Z121 F_Z121)))
def Z121.j1(R:Run)(N a:Nat)(b:List Int)(e:Int)(f:Bool)(g:vK):Option Dv:=R.w (some ⟨(.c (.box 71 0)::(.c (.d yL b)::(V.dead::(V.dead::(.c (.d yI e)::(zd 14 (.c (.d .bool f)::(zd 51 [])))))))),(zo 71 (some (.box [.arr 73] false true)::(none::(some (.arr yL g false false false)::(none::(none::[]))))))⟩) fun st=>eC R pol_Z121 N [1,0,1,0,0,0,1] F_Z121 st (kS R pol_Z121 4 N [1,0,1,0,0,1] F_Z121 (kL R pol_Z121 2 N [1,0,1,0,0] F_Z121 a (kB R pol_Z121 0 (kS R pol_Z121 5 N [1,1] F_Z121 (qpH E sg_Z121 F_Z121)))))
def Z121.l0(R:Run)(N n:Nat)(a:List Int)(b:Int)(e:vK):Option Dv:=R.w (some ⟨(.c (.box 71 0)::(.c (.d yL a)::(V.dead::(V.dead::(.c (.d yI b)::(zd 66 [])))))),(zo 71 (some (.box [.arr 73] false true)::(none::(some (.arr yL e false false false)::(none::(none::[]))))))⟩) fun st=>lC R pol_Z121 2 N [1,0,1,0,0] F_Z121 n st (kB R pol_Z121 0 (kS R pol_Z121 5 N [1,1] F_Z121 (qpH E sg_Z121 F_Z121)))
theorem Z121.j3_eq(R:Run)(hw:R.ok)(N a:Nat)(b:List Int)(c:Int)(d:Bool)(e:vK):Z121.j3 R N a b c d e=(bif d then(Z121.l2 R N a b (w64 (c+1)) e) else((chk (decide (0≤c)&&decide (c≤(List.length e:Int)))).bind fun _=>((chk (decide ((List.length ([]:List (List Int))+List.length (List.drop 0 (List.take (Int.toNat c) e)))*24≤70368744177664))).bind fun _=>((qdy R n_Z102 o_Z102 [⟨yL,b⟩]).bind fun r26=>((chk (decide ((List.length (([]:List (List Int))++(List.drop 0 (List.take (Int.toNat c) e)))+List.length [r26.1])*24≤70368744177664))).bind fun _=>((chk (decide (0≤c)&&decide (c≤(List.length e:Int)))).bind fun _=>((chk (decide ((List.length ((([]:List (List Int))++(List.drop 0 (List.take (Int.toNat c) e)))++[r26.1])+List.length (List.drop (Int.toNat c) (List.take (List.length e) e)))*24≤70368744177664))).bind fun _=>some ⟨o_Z121,(((((([]:List (List Int))++(List.drop 0 (List.take (Int.toNat c) e)))++[r26.1])++(List.drop (Int.toNat c) (List.take (List.length e) e))),()),())⟩))))))):=(hw _ _).trans (by kernel_rfl)
theorem Z121.l2_succ(R:Run)(hw:R.ok)(N n:Nat)(a:List Int)(b:Int)(c:vK):Z121.l2 R N (n+1) a b c=(bif (decide (b<(List.length c:Int))) then((chk (decide (0≤b)&&decide (b<(List.length c:Int)))).bind fun _=>(Option.bind (c)[(Int.toNat b)]? fun y17=>((qdy R n_Z113 o_Z113 [⟨yL,y17⟩,⟨yL,a⟩]).bind fun r18=>(Z121.j3 R N n a b r18.1 c)))) else(Z121.j3 R N n a b false c)):=(hw _ _).trans (by kernel_rfl)
theorem Z121.j1_eq(R:Run)(hw:R.ok)(N a:Nat)(b:List Int)(c:Int)(d:Bool)(e:vK):Z121.j1 R N a b c d e=(bif d then((qdy R n_Z115 o_Z115 [⟨yL,b⟩,⟨yI,c⟩]).bind fun r9=>((qdy R n_Z121 o_Z121 [⟨(.ptr yC),(e,())⟩,⟨yL,r9.1⟩]).bind fun r10=>(Z121.l0 R N a b (w64 (c+1)) r10.1.1))) else(Z121.l2 R N N b (0:Int) e)):=(hw _ _).trans (by kernel_rfl)
theorem Z121.l0_succ(R:Run)(hw:R.ok)(N n:Nat)(a:List Int)(b:Int)(c:vK):Z121.l0 R N (n+1) a b c=(bif (decide (b<(List.length a:Int))) then(Z121.j1 R N n a b (decide ((List.length a:Int)>(1:Int))) c) else(Z121.j1 R N n a b false c)):=(hw _ _).trans (by kernel_rfl)
theorem Z121.ev(R:Run)(N:Nat)(a0:(vK×Unit))(a1:List Int):qpj E R sg_Z121 pol_Z121 F_Z121 N [⟨(.ptr yC),a0⟩,⟨yL,a1⟩]=((qdy R n_Z118 o_Z118 [⟨(.ptr yC),(a0.1,())⟩,⟨yL,a1⟩]).bind fun r1=>(bif (decide (r1.1≥(0:Int))) then some ⟨o_Z121,((a0.1,()),())⟩ else(Z121.l0 R N N a1 (0:Int) a0.1))):=by kernel_rfl
def Z114.l0(R:Run)(N n:Nat)(a:vK)(b:Int)(e:vK):Option Dv:=R.w (some ⟨(.c (.d yK a)::(V.dead::(.c (.box 2 0)::(.c (.box 3 0)::(.c (.d yI b)::(zd 14 [])))))),(none::(none::(some (.box [.nils yL] false false)::(some (.box [.arr 5] false false)::(none::(some (.arr yL e false false false)::(zo 14 [])))))))⟩) fun st=>lC R pol_Z114 3 N [1,1,0,1,0,0] F_Z114 n st (kB R pol_Z114 0 (kS R pol_Z114 6 N [1,1,1] F_Z114 (qpH E sg_Z114 F_Z114)))
theorem Z114.l0_succ(R:Run)(hw:R.ok)(N n:Nat)(a:vK)(b:Int)(c:vK):Z114.l0 R N (n+1) a b c=(bif (decide (b<(List.length a:Int))) then((idx? a b).bind fun y4=>((qdy R n_Z121 o_Z121 [⟨(.ptr yC),(c,())⟩,⟨yL,(y4,()).1⟩]).bind fun r5=>(Z114.l0 R N n a (w64 (b+1)) r5.1.1))) else some ⟨o_Z114,(c,())⟩):=(hw _ _).trans (by kernel_rfl)
theorem Z114.ev(R:Run)(N:Nat)(a0:vK):qpj E R sg_Z114 pol_Z114 F_Z114 N [⟨yK,a0⟩]=(Z114.l0 R N N a0 (0:Int) ([]:List (List Int))):=by kernel_rfl
def Z96.l0(R:Run)(N n:Nat)(a:vK)(b:Int):Option Dv:=R.w (some ⟨(.c (.d yK a)::(V.dead::(.c (.box 2 0)::(V.dead::(.c (.d yI b)::(zd 26 [])))))),(none::(none::(some (.box [.nils yL] false false)::(zo 30 []))))⟩) fun st=>lC R pol_Z96 2 N [1,0,1,0,0] F_Z96 n st (kB R pol_Z96 0 (kS R pol_Z96 6 N [1,1] F_Z96 (qpH E sg_Z96 F_Z96)))
theorem Z96.l0_succ(R:Run)(hw:R.ok)(N n:Nat)(a:vK)(b:Int):Z96.l0 R N (n+1) a b=(bif (decide (b<(List.length a:Int))) then((idx? a b).bind fun y3=>((qdy R n_Z123 o_Z123 [⟨yL,(y3,()).1⟩]).bind fun r4=>(bif (!r4.1) then some ⟨o_Z96,(([]:List (List Int)),(1:Int),())⟩ else(Z96.l0 R N n a (w64 (b+1)))))) else(bif (decide ((List.length a:Int)>(48:Int))) then some ⟨o_Z96,(([]:List (List Int)),(5:Int),())⟩ else((qdy R n_Z114 o_Z114 [⟨yK,a⟩]).bind fun r7=>(bif (decide ((List.length r7.1:Int)>(48:Int))) then some ⟨o_Z96,(([]:List (List Int)),(5:Int),())⟩ else some ⟨o_Z96,(r7.1,(0:Int),())⟩)))):=(hw _ _).trans (by kernel_rfl)
theorem Z96.ev(R:Run)(N:Nat)(a0:vK):qpj E R sg_Z96 pol_Z96 F_Z96 N [⟨yK,a0⟩]=(Z96.l0 R N N a0 (0:Int)):=by kernel_rfl
def Z100.l0(R:Run)(N n:Nat)(a:List Int)(b e:Int):Option Dv:=R.w (some ⟨(.c (.d yL a)::(.c (.d yI b)::(zd 3 (.c (.d yI e)::(zd 12 []))))),(zo 20 [])⟩) fun st=>lC R pol_Z100 2 N [1,0,1,0,0] F_Z100 n st (kB R pol_Z100 0 (kS R pol_Z100 6 N [1,1] F_Z100 (qpH E sg_Z100 F_Z100)))
theorem Z100.l0_succ(R:Run)(hw:R.ok)(N n:Nat)(a:List Int)(b c:Int):Z100.l0 R N (n+1) a b c=(bif (decide (c<(List.length a:Int))) then((idx? a c).bind fun y4=>(bif ((y4,()).1==b) then some ⟨o_Z100,(true,())⟩ else(Z100.l0 R N n a b (w64 (c+1))))) else some ⟨o_Z100,(false,())⟩):=(hw _ _).trans (by kernel_rfl)
theorem Z100.ev(R:Run)(N:Nat)(a0:List Int)(a1:Int):qpj E R sg_Z100 pol_Z100 F_Z100 N [⟨yL,a0⟩,⟨yI,a1⟩]=(Z100.l0 R N N a0 a1 (0:Int)):=by kernel_rfl
def Z120.l0(R:Run)(N n:Nat)(a b:List Int)(e:Int):Option Dv:=R.w (some ⟨(.c (.d yL a)::(.c (.d yL b)::(zd 3 (.c (.d yI e)::(zd 13 []))))),(zo 21 [])⟩) fun st=>lC R pol_Z120 2 N [1,0,1,0,0] F_Z120 n st (kB R pol_Z120 0 (kS R pol_Z120 6 N [1,1] F_Z120 (qpH E sg_Z120 F_Z120)))
theorem Z120.l0_succ(R:Run)(hw:R.ok)(N n:Nat)(a b:List Int)(c:Int):Z120.l0 R N (n+1) a b c=(bif (decide (c<(List.length a:Int))) then((idx? a c).bind fun y4=>((qdy R n_Z100 o_Z100 [⟨yL,b⟩,⟨yI,(y4,()).1⟩]).bind fun r5=>(bif (!r5.1) then some ⟨o_Z120,(false,())⟩ else(Z120.l0 R N n a b (w64 (c+1)))))) else some ⟨o_Z120,(true,())⟩):=(hw _ _).trans (by kernel_rfl)
theorem Z120.ev(R:Run)(N:Nat)(a0 a1:List Int):qpj E R sg_Z120 pol_Z120 F_Z120 N [⟨yL,a0⟩,⟨yL,a1⟩]=(Z120.l0 R N N a0 a1 (0:Int)):=by kernel_rfl
def Z125.l0(R:Run)(N n:Nat)(a:(vK×Unit))(b:List Int)(e:Int)(f:List Int):Option Dv:=R.w (some ⟨(.c (.ip yC a 0)::(.c (.d yL b)::(zd 3 (.c (.arr 7)::(.c (.d yI e)::(zd 24 [])))))),(zo 7 (some (.arr yI f true false false)::(zo 25 [])))⟩) fun st=>lC R pol_Z125 3 N [1,1,0,1,0,0] F_Z125 n st (kB R pol_Z125 0 (kS R pol_Z125 7 N [1,1,1] F_Z125 (qpH E sg_Z125 F_Z125)))
theorem Z125.l0_succ(R:Run)(hw:R.ok)(N n:Nat)(a:(vK×Unit))(b:List Int)(c:Int)(d:List Int):Z125.l0 R N (n+1) a b c d=(bif (decide (c<(List.length a.1:Int))) then((idx? a.1 c).bind fun y5=>((qdy R n_Z120 o_Z120 [⟨yL,b⟩,⟨yL,(y5,()).1⟩]).bind fun r6=>(bif r6.1 then((chk (decide ((List.length d+List.length [c])*8≤70368744177664))).bind fun _=>(Z125.l0 R N n a b (w64 (c+1)) (d++[c]))) else(Z125.l0 R N n a b (w64 (c+1)) d)))) else some ⟨o_Z125,(d,())⟩):=(hw _ _).trans (by kernel_rfl)
theorem Z125.ev(R:Run)(N:Nat)(a0:(vK×Unit))(a1:List Int):qpj E R sg_Z125 pol_Z125 F_Z125 N [⟨(.ptr yC),a0⟩,⟨yL,a1⟩]=(Z125.l0 R N N a0 a1 (0:Int) ([]:List Int)):=by kernel_rfl
def Z117.l0(R:Run)(N n:Nat)(a:(vK×Unit))(b:Int)(e:List Int):Option Dv:=R.w (some ⟨(.c (.ip yC a 0)::(V.dead::(V.dead::(.c (.arr 5)::(.c (.d yI b)::(zd 26 [])))))),(zo 5 (some (.arr yI e true false false)::(zo 26 [])))⟩) fun st=>lC R pol_Z117 3 N [1,1,0,1,0,0] F_Z117 n st (kB R pol_Z117 0 (kS R pol_Z117 7 N [1,1,1] F_Z117 (qpH E sg_Z117 F_Z117)))
theorem Z117.l0_succ(R:Run)(hw:R.ok)(N n:Nat)(a:(vK×Unit))(b:Int)(c:List Int):Z117.l0 R N (n+1) a b c=(bif (decide (b<(List.length a.1:Int))) then((idx? a.1 b).bind fun y4=>((qdy R n_Z125 o_Z125 [⟨(.ptr yC),a⟩,⟨yL,(y4,()).1⟩]).bind fun r5=>(bif ((List.length r5.1:Int)==(1:Int)) then((chk (decide ((List.length c+List.length [b])*8≤70368744177664))).bind fun _=>(Z117.l0 R N n a (w64 (b+1)) (c++[b]))) else(Z117.l0 R N n a (w64 (b+1)) c)))) else some ⟨o_Z117,(c,())⟩):=(hw _ _).trans (by kernel_rfl)
theorem Z117.ev(R:Run)(N:Nat)(a0:(vK×Unit)):qpj E R sg_Z117 pol_Z117 F_Z117 N [⟨(.ptr yC),a0⟩]=(Z117.l0 R N N a0 (0:Int) ([]:List Int)):=by kernel_rfl
def Z105.j1(R:Run)(N a:Nat)(b e f:Int)(g:List Int):Option Dv:=R.w (some ⟨(.c (.d yI b)::(V.dead::(V.dead::(.c (.arr 10)::(.c (.d yI e)::(.c (.d yI f)::(zd 44 []))))))),(zo 10 (some (.arr (.int .u8) g true false false)::(zo 40 [])))⟩) fun st=>eC R pol_Z105 N [1,1,1,0,1,0,0,1,0,0,1,1] F_Z105 st (kB R pol_Z105 1 (kS R pol_Z105 6 N [1,1,1,0,1,0,0,1,1] F_Z105 (kL R pol_Z105 5 N [1,1,1,0,1,0,0] F_Z105 a (kB R pol_Z105 0 (kS R pol_Z105 11 N [1,1,1,1] F_Z105 (qpH E sg_Z105 F_Z105))))))
def Z105.l3(R:Run)(N n:Nat)(a:Int)(b e:List Int):Option Dv:=R.w (some ⟨(zd 3 (.c (.arr 10)::(V.dead::(V.dead::(.c (.arr 33)::(.c (.d yI a)::(zd 42 []))))))),(zo 10 (some (.arr (.int .u8) b true false false)::(zo 22 (some (.arr (.int .u8) e true false false)::(zo 17 [])))))⟩) fun st=>lC R pol_Z105 15 N [1,1,1,1,1,1,0,1,0,0] F_Z105 n st (kB R pol_Z105 2 (kS R pol_Z105 18 N [1,1,1,1,1,1,1] F_Z105 (qpH E sg_Z105 F_Z105)))
def Z105.j2(R:Run)(N:Nat)(a:List Int):Option Dv:=R.w (some ⟨(zd 3 (.c (.arr 10)::(zd 46 []))),(zo 10 (some (.arr (.int .u8) a true false false)::(zo 40 [])))⟩) fun st=>eC R pol_Z105 N [1,1,1,1,1] F_Z105 st (qpH E sg_Z105 F_Z105)
def Z105.l0(R:Run)(N n:Nat)(a b:Int)(e:List Int):Option Dv:=R.w (some ⟨(.c (.d yI a)::(V.dead::(V.dead::(.c (.arr 10)::(.c (.d yI b)::(zd 45 [])))))),(zo 10 (some (.arr (.int .u8) e true false false)::(zo 40 [])))⟩) fun st=>lC R pol_Z105 5 N [1,1,1,0,1,0,0] F_Z105 n st (kB R pol_Z105 0 (kS R pol_Z105 11 N [1,1,1,1] F_Z105 (qpH E sg_Z105 F_Z105)))
theorem Z105.j1_eq(R:Run)(hw:R.ok)(N a:Nat)(b c d:Int)(e:List Int):Z105.j1 R N a b c d e=((chk (decide ((List.length e+List.length [(IntKind.wrap .u8 ((w64 ((48:Int)+d))))])*1≤70368744177664))).bind fun _=>(Z105.l0 R N a b (w64 (Int.tdiv c (10:Int))) (e++[(IntKind.wrap .u8 ((w64 ((48:Int)+d))))]))):=(hw _ _).trans (by kernel_rfl)
theorem Z105.l3_succ(R:Run)(hw:R.ok)(N n:Nat)(a:Int)(b c:List Int):Z105.l3 R N (n+1) a b c=(bif (decide (a≥(0:Int))) then((chk (decide (0≤a)&&decide (a<(List.length b:Int)))).bind fun _=>(Option.bind (b)[(Int.toNat a)]? fun y19=>((chk (decide ((List.length c+List.length [y19])*1≤70368744177664))).bind fun _=>(Z105.l3 R N n (w64 (a-1)) b (c++[y19]))))) else some ⟨o_Z105,((ByteArray.mk (List.toArray (List.map (fun n=>UInt8.ofNat (Int.toNat n)) c))),())⟩):=(hw _ _).trans (by kernel_rfl)
theorem Z105.j2_eq(R:Run)(hw:R.ok)(N:Nat)(a:List Int):Z105.j2 R N a=(Z105.l3 R N N (w64 ((List.length a:Int)-(1:Int))) a ([]:List Int)):=(hw _ _).trans (by kernel_rfl)
theorem Z105.l0_succ(R:Run)(hw:R.ok)(N n:Nat)(a b:Int)(c:List Int):Z105.l0 R N (n+1) a b c=(bif (b != (0:Int)) then(bif (decide ((Int.tmod b (10:Int))<(0:Int))) then(Z105.j1 R N n a b (w64 (0-(Int.tmod b (10:Int)))) c) else(Z105.j1 R N n a b (Int.tmod b (10:Int)) c)) else(bif (decide (a<(0:Int))) then((chk (decide ((List.length c+List.length [(45:Int)])*1≤70368744177664))).bind fun _=>(Z105.j2 R N (c++[(45:Int)]))) else(Z105.j2 R N c))):=(hw _ _).trans (by kernel_rfl)
theorem Z105.ev(R:Run)(N:Nat)(a0:Int):qpj E R sg_Z105 pol_Z105 F_Z105 N [⟨yI,a0⟩]=(bif (a0==(0:Int)) then some ⟨o_Z105,((ByteArray.mk #[48]),())⟩ else(Z105.l0 R N N a0 a0 ([]:List Int))):=by kernel_rfl
def Z107.j1(R:Run)(N a:Nat)(b:List Int)(e:ByteArray)(f:Int):Option Dv:=R.w (some ⟨(.c (.d yL b)::(V.dead::(V.dead::(.c (.d .str e)::(.c (.d yI f)::(zd 21 [])))))),(zo 27 [])⟩) fun st=>eC R pol_Z107 N [1,1,1,0,1,0,0,1,0,0,1] F_Z107 st (kB R pol_Z107 1 (kS R pol_Z107 6 N [1,1,1,0,1,0,0,1,1] F_Z107 (kL R pol_Z107 5 N [1,1,1,0,1,0,0] F_Z107 a (kB R pol_Z107 0 (kS R pol_Z107 10 N [1,1,1,1] F_Z107 (qpH E sg_Z107 F_Z107))))))
def Z107.l0(R:Run)(N n:Nat)(a:List Int)(b:ByteArray)(e:Int):Option Dv:=R.w (some ⟨(.c (.d yL a)::(V.dead::(V.dead::(.c (.d .str b)::(.c (.d yI e)::(zd 21 [])))))),(zo 27 [])⟩) fun st=>lC R pol_Z107 5 N [1,1,1,0,1,0,0] F_Z107 n st (kB R pol_Z107 0 (kS R pol_Z107 10 N [1,1,1,1] F_Z107 (qpH E sg_Z107 F_Z107)))
theorem Z107.j1_eq(R:Run)(hw:R.ok)(N a:Nat)(b:List Int)(c:ByteArray)(d:Int):Z107.j1 R N a b c d=((idx? b d).bind fun y7=>((qdy R n_Z105 o_Z105 [⟨yI,(y7,()).1⟩]).bind fun r8=>((chk (decide (ByteArray.size c+ByteArray.size r8.1≤70368744177664))).bind fun _=>(Z107.l0 R N a b (c++r8.1) (w64 (d+1)))))):=(hw _ _).trans (by kernel_rfl)
theorem Z107.l0_succ(R:Run)(hw:R.ok)(N n:Nat)(a:List Int)(b:ByteArray)(c:Int):Z107.l0 R N (n+1) a b c=(bif (decide (c<(List.length a:Int))) then(bif (decide (c>(0:Int))) then((chk (decide (ByteArray.size b+ByteArray.size (ByteArray.mk #[44])≤70368744177664))).bind fun _=>(Z107.j1 R N n a (b++(ByteArray.mk #[44])) c)) else(Z107.j1 R N n a b c)) else some ⟨o_Z107,(b,())⟩):=(hw _ _).trans (by kernel_rfl)
theorem Z107.ev(R:Run)(N:Nat)(a0:List Int):qpj E R sg_Z107 pol_Z107 F_Z107 N [⟨yL,a0⟩]=(bif ((List.length a0:Int)==(0:Int)) then some ⟨o_Z107,((ByteArray.mk #[45]),())⟩ else(Z107.l0 R N N a0 (ByteArray.mk #[]) (0:Int))):=by kernel_rfl
def Z126.j1(R:Run)(N a:Nat)(b:(vK×Unit))(e:List Int)(f:ByteArray)(g:Int):Option Dv:=R.w (some ⟨(.c (.ip yC b 0)::(V.dead::(V.dead::(.c (.d yL e)::(.c (.d .str f)::(.c (.d yI g)::(zd 28 []))))))),(zo 35 [])⟩) fun st=>eC R pol_Z126 N [1,1,1,0,1,0,0,1,0,0,1] F_Z126 st (kB R pol_Z126 1 (kS R pol_Z126 5 N [1,1,1,0,1,0,0,1,1] F_Z126 (kL R pol_Z126 4 N [1,1,1,0,1,0,0] F_Z126 a (kB R pol_Z126 0 (kS R pol_Z126 9 N [1,1,1,1] F_Z126 (qpH E sg_Z126 F_Z126))))))
def Z126.l0(R:Run)(N n:Nat)(a:(vK×Unit))(b:List Int)(e:ByteArray)(f:Int):Option Dv:=R.w (some ⟨(.c (.ip yC a 0)::(V.dead::(V.dead::(.c (.d yL b)::(.c (.d .str e)::(.c (.d yI f)::(zd 28 []))))))),(zo 35 [])⟩) fun st=>lC R pol_Z126 4 N [1,1,1,0,1,0,0] F_Z126 n st (kB R pol_Z126 0 (kS R pol_Z126 9 N [1,1,1,1] F_Z126 (qpH E sg_Z126 F_Z126)))
theorem Z126.j1_eq(R:Run)(hw:R.ok)(N a:Nat)(b:(vK×Unit))(c:List Int)(d:ByteArray)(e:Int):Z126.j1 R N a b c d e=((idx? c e).bind fun y10=>((idx? b.1 (y10,()).1).bind fun y11=>((qdy R n_Z107 o_Z107 [⟨yL,(y11,()).1⟩]).bind fun r12=>((chk (decide (ByteArray.size d+ByteArray.size r12.1≤70368744177664))).bind fun _=>(Z126.l0 R N a b c (d++r12.1) (w64 (e+1))))))):=(hw _ _).trans (by kernel_rfl)
theorem Z126.l0_succ(R:Run)(hw:R.ok)(N n:Nat)(a:(vK×Unit))(b:List Int)(c:ByteArray)(d:Int):Z126.l0 R N (n+1) a b c d=(bif (decide (d<(List.length b:Int))) then(bif (decide (d>(0:Int))) then((chk (decide (ByteArray.size c+ByteArray.size (ByteArray.mk #[47])≤70368744177664))).bind fun _=>(Z126.j1 R N n a b (c++(ByteArray.mk #[47])) d)) else(Z126.j1 R N n a b c d)) else(bif (ByteArray.toList c==ByteArray.toList (ByteArray.mk #[])) then some ⟨o_Z126,((ByteArray.mk #[45]),())⟩ else some ⟨o_Z126,(c,())⟩)):=(hw _ _).trans (by kernel_rfl)
theorem Z126.ev(R:Run)(N:Nat)(a0:(vK×Unit)):qpj E R sg_Z126 pol_Z126 F_Z126 N [⟨(.ptr yC),a0⟩]=((qdy R n_Z117 o_Z117 [⟨(.ptr yC),a0⟩]).bind fun r1=>(Z126.l0 R N N a0 r1.1 (ByteArray.mk #[]) (0:Int))):=by kernel_rfl
def Z122.j2(R:Run)(N:Nat)(a:Bool)(b:vK):Option Dv:=R.w (some ⟨(V.dead::(V.dead::(.c (.box 2 0)::(zd 6 (.c (.box 9 0)::(zd 40 (.c (.d .bool a)::(V.dead::(V.dead::[]))))))))),(none::(none::(some (.box [.nils yL] false false)::(zo 6 (some (.box [.arr 55] false false)::(zo 45 (some (.arr yL b false false false)::[])))))))⟩) fun st=>eC R pol_Z122 N [1,1,1,1,1,0,1] F_Z122 st (kS R pol_Z122 13 N [1,1,1,1,1,1] F_Z122 (qpH E sg_Z122 F_Z122))
def Z122.j1(R:Run)(N a:Nat)(b:ByteArray)(e:(List ByteArray))(f:Int)(g:Bool)(h:vK):Option Dv:=R.w (some ⟨(.c (.d .str b)::(V.dead::(.c (.box 2 0)::(V.dead::(.c (.d (.sl .str) e)::(.c (.arr 13)::(.c (.d yI f)::(zd 14 (.c (.d .bool g)::(zd 31 [])))))))))),(none::(none::(some (.box [.nils yL] false false)::(zo 10 (some (.arr yL h true false false)::(zo 42 []))))))⟩) fun st=>eC R pol_Z122 N [1,1,1,0,1,0,0,0,1] F_Z122 st (kS R pol_Z122 6 N [1,1,1,0,1,0,0,1] F_Z122 (kL R pol_Z122 4 N [1,1,1,0,1,0,0] F_Z122 a (kB R pol_Z122 0 (kS R pol_Z122 10 N [1,1,1,1] F_Z122 (qpH E sg_Z122 F_Z122)))))
def Z122.l0(R:Run)(N n:Nat)(a:ByteArray)(b:(List ByteArray))(e:Int)(f:vK):Option Dv:=R.w (some ⟨(.c (.d .str a)::(V.dead::(.c (.box 2 0)::(V.dead::(.c (.d (.sl .str) b)::(.c (.arr 13)::(.c (.d yI e)::(zd 46 [])))))))),(none::(none::(some (.box [.nils yL] false false)::(zo 10 (some (.arr yL f true false false)::(zo 42 []))))))⟩) fun st=>lC R pol_Z122 4 N [1,1,1,0,1,0,0] F_Z122 n st (kB R pol_Z122 0 (kS R pol_Z122 10 N [1,1,1,1] F_Z122 (qpH E sg_Z122 F_Z122)))
theorem Z122.j2_eq(R:Run)(hw:R.ok)(N:Nat)(a:Bool)(b:vK):Z122.j2 R N a b=(bif a then some ⟨o_Z122,(([]:List (List Int)),false,())⟩ else some ⟨o_Z122,(b,true,())⟩):=(hw _ _).trans (by kernel_rfl)
theorem Z122.j1_eq(R:Run)(hw:R.ok)(N a:Nat)(b:ByteArray)(c:(List ByteArray))(d:Int)(e:Bool)(f:vK):Z122.j1 R N a b c d e f=(bif e then((idx? c d).bind fun y11=>((qdy R n_Z97 o_Z97 [⟨.str,(y11,()).1⟩]).bind fun r12=>(bif (!r12.2.1) then some ⟨o_Z122,(([]:List (List Int)),false,())⟩ else((chk (decide ((List.length f+List.length [r12.1])*24≤70368744177664))).bind fun _=>(Z122.l0 R N a b c (w64 (d+1)) (f++[r12.1])))))) else((qdy R n_Z96 o_Z96 [⟨yK,f⟩]).bind fun r17=>(bif (r17.2.1 != (0:Int)) then(Z122.j2 R N true r17.1) else((qdy R n_Z126 o_Z126 [⟨(.ptr yC),(r17.1,())⟩]).bind fun r20=>(Z122.j2 R N (!(ByteArray.toList r20.1==ByteArray.toList b)) r17.1))))):=(hw _ _).trans (by kernel_rfl)
theorem Z122.l0_succ(R:Run)(hw:R.ok)(N n:Nat)(a:ByteArray)(b:(List ByteArray))(c:Int)(d:vK):Z122.l0 R N (n+1) a b c d=(bif (decide (c<(List.length b:Int))) then(Z122.j1 R N n a b c (!(ByteArray.toList a==ByteArray.toList (ByteArray.mk #[45]))) d) else(Z122.j1 R N n a b c false d)):=(hw _ _).trans (by kernel_rfl)
theorem Z122.ev(R:Run)(N:Nat)(a0:ByteArray):qpj E R sg_Z122 pol_Z122 F_Z122 N [⟨.str,a0⟩]=((qdy R n_Z109 o_Z109 [⟨.str,a0⟩,⟨(.int .u8),(47:Int)⟩]).bind fun r1=>(Z122.l0 R N N a0 r1.1 (0:Int) ([]:List (List Int)))):=by kernel_rfl
def Z124.l0(R:Run)(N n:Nat)(a:(vK×Unit))(b e:Int)(f:vK):Option Dv:=R.w (some ⟨(.c (.ip yC a 0)::(.c (.d yI b)::(V.dead::(V.dead::(.c (.box 4 0)::(.c (.box 5 0)::(.c (.d yI e)::(zd 36 [])))))))),(zo 4 (some (.box [.nils yL] false false)::(some (.box [.arr 7] false false)::(none::(some (.arr yL f true false false)::(zo 38 []))))))⟩) fun st=>lC R pol_Z124 3 N [1,1,0,1,0,0] F_Z124 n st (kB R pol_Z124 0 (kS R pol_Z124 7 N [1,1,1] F_Z124 (qpH E sg_Z124 F_Z124)))
theorem Z124.l0_succ(R:Run)(hw:R.ok)(N n:Nat)(a:(vK×Unit))(b c:Int)(d:vK):Z124.l0 R N (n+1) a b c d=(bif (decide (c<(List.length a.1:Int))) then((idx? a.1 c).bind fun y5=>(bif (decide ((List.length (y5,()).1:Int)≤(w64 (b+1)))) then((idx? a.1 c).bind fun y6=>((qdy R n_Z102 o_Z102 [⟨yL,(y6,()).1⟩]).bind fun r7=>((chk (decide ((List.length d+List.length [r7.1])*24≤70368744177664))).bind fun _=>(Z124.l0 R N n a b (w64 (c+1)) (d++[r7.1]))))) else(Z124.l0 R N n a b (w64 (c+1)) d))) else some ⟨o_Z124,(d,())⟩):=(hw _ _).trans (by kernel_rfl)
theorem Z124.ev(R:Run)(N:Nat)(a0:(vK×Unit))(a1:Int):qpj E R sg_Z124 pol_Z124 F_Z124 N [⟨(.ptr yC),a0⟩,⟨yI,a1⟩]=(Z124.l0 R N N a0 a1 (0:Int) ([]:List (List Int))):=by kernel_rfl
def Z116.j1(R:Run)(N a:Nat)(b:(vK×Unit))(e:List Int)(f:Int)(g:Bool)(h:List Int):Option Dv:=R.w (some ⟨(.c (.ip yC b 0)::(zd 4 (.c (.d yL e)::(.c (.arr 15)::(.c (.d yI f)::(zd 16 (.c (.d .bool g)::(zd 11 [])))))))),(zo 15 (some (.arr yI h true false false)::(zo 22 [])))⟩) fun st=>eC R pol_Z116 N [1,1,1,0,1,0,0,0,1] F_Z116 st (kS R pol_Z116 6 N [1,1,1,0,1,0,0,1] F_Z116 (kL R pol_Z116 4 N [1,1,1,0,1,0,0] F_Z116 a (kB R pol_Z116 0 (kS R pol_Z116 7 N [1,1,1,1] F_Z116 (qpH E sg_Z116 F_Z116)))))
def Z116.l0(R:Run)(N n:Nat)(a:(vK×Unit))(b:List Int)(e:Int)(f:List Int):Option Dv:=R.w (some ⟨(.c (.ip yC a 0)::(zd 4 (.c (.d yL b)::(.c (.arr 15)::(.c (.d yI e)::(zd 28 [])))))),(zo 15 (some (.arr yI f true false false)::(zo 22 [])))⟩) fun st=>lC R pol_Z116 4 N [1,1,1,0,1,0,0] F_Z116 n st (kB R pol_Z116 0 (kS R pol_Z116 7 N [1,1,1,1] F_Z116 (qpH E sg_Z116 F_Z116)))
theorem Z116.j1_eq(R:Run)(hw:R.ok)(N a:Nat)(b:(vK×Unit))(c:List Int)(d:Int)(e:Bool)(f:List Int):Z116.j1 R N a b c d e f=(bif e then((qdy R n_Z115 o_Z115 [⟨yL,c⟩,⟨yI,d⟩]).bind fun r11=>((qdy R n_Z118 o_Z118 [⟨(.ptr yC),b⟩,⟨yL,r11.1⟩]).bind fun r12=>((chk (decide ((List.length f+List.length [r12.1])*8≤70368744177664))).bind fun _=>(Z116.l0 R N a b c (w64 (d+1)) (f++[r12.1]))))) else some ⟨o_Z116,(f,())⟩):=(hw _ _).trans (by kernel_rfl)
theorem Z116.l0_succ(R:Run)(hw:R.ok)(N n:Nat)(a:(vK×Unit))(b:List Int)(c:Int)(d:List Int):Z116.l0 R N (n+1) a b c d=(bif (decide (c<(List.length b:Int))) then(Z116.j1 R N n a b c (decide ((List.length b:Int)>(1:Int))) d) else(Z116.j1 R N n a b c false d)):=(hw _ _).trans (by kernel_rfl)
theorem Z116.ev(R:Run)(N:Nat)(a0:(vK×Unit))(a1:Int):qpj E R sg_Z116 pol_Z116 F_Z116 N [⟨(.ptr yC),a0⟩,⟨yI,a1⟩]=((idx? a0.1 a1).bind fun y1=>(Z116.l0 R N N a0 ((y1,()).1) (0:Int) ([]:List Int))):=by kernel_rfl
theorem Z112.ev(R:Run)(N:Nat)(a0 a1 a2:Int):qpj E R sg_Z112 pol_Z112 F_Z112 N [⟨yI,a0⟩,⟨yI,a1⟩,⟨yI,a2⟩]=((chk (decide (0≤(w64 (a1*a2)))&&decide ((w64 (a1*a2))*8≤70368744177664))).bind fun _=>some ⟨o_Z112,(a0,a1,a2,(List.replicate (Int.toNat (w64 (a1*a2))) (0:Int)),())⟩):=by kernel_rfl
def Z128.l1(R:Run)(N a n:Nat)(b:(vK×Unit))(e:Int)(f:List Int)(g:Int)(h:List Int)(i j k:Int)(l:vN)(m:vK)(o:List Int):Option Dv:=R.w (some ⟨(.c (.ip yC b 0)::(.c (.d yI e)::(.c (.d yL f)::(zd 3 (.c (.box 6 0)::(.c (.box 7 0)::(.c (.d yI g)::(.c (.d yL h)::(.c (.d yI i)::(zd 44 [])))))))))),(zo 6 (some (.box [.nils yL,.d yI j,.nils yI,.nils (.st yM)] false false)::(some (.box [.arr 59,.d yI k,.arr 60,.arr 16] false false)::(zo 8 (some (.arr (.st yM) l true false false)::(zo 42 (some (.arr yL m true false false)::(some (.arr yI o true false false)::[]))))))))⟩) fun st=>lC R pol_Z128 7 N [1,1,0,1,0,0,1,0,0,1,1,0,0] F_Z128 n st (kB R pol_Z128 2 (kB R pol_Z128 1 (kS R pol_Z128 4 N [1,1,0,1,0,0,1,1] F_Z128 (kL R pol_Z128 3 N [1,1,0,1,0,0] F_Z128 a (kB R pol_Z128 0 (kS R pol_Z128 10 N [1,1,1] F_Z128 (qpH E sg_Z128 F_Z128)))))))
def Z128.l0(R:Run)(N n:Nat)(a:(vK×Unit))(b:Int)(e:List Int)(f g h:Int)(i:vN)(j:vK)(k:List Int):Option Dv:=R.w (some ⟨(.c (.ip yC a 0)::(.c (.d yI b)::(.c (.d yL e)::(zd 3 (.c (.box 6 0)::(.c (.box 7 0)::(.c (.d yI f)::(zd 46 [])))))))),(zo 6 (some (.box [.nils yL,.d yI g,.nils yI,.nils (.st yM)] false false)::(some (.box [.arr 59,.d yI h,.arr 60,.arr 16] false false)::(zo 8 (some (.arr (.st yM) i true false false)::(zo 42 (some (.arr yL j true false false)::(some (.arr yI k true false false)::[]))))))))⟩) fun st=>lC R pol_Z128 3 N [1,1,0,1,0,0] F_Z128 n st (kB R pol_Z128 0 (kS R pol_Z128 10 N [1,1,1] F_Z128 (qpH E sg_Z128 F_Z128)))
theorem Z128.l1_succ(R:Run)(hw:R.ok)(N a n:Nat)(b:(vK×Unit))(c:Int)(d:List Int)(e:Int)(f:List Int)(g h i:Int)(j:vN)(k:vK)(l:List Int):Z128.l1 R N a (n+1) b c d e f g h i j k l=(bif (decide (g<(List.length f:Int))) then((idx? d e).bind fun y24=>((idx? f g).bind fun y25=>((idx? d (y25,()).1).bind fun y26=>((qdy R n_Z112 o_Z112 [⟨yI,c⟩,⟨yI,(y24,()).1⟩,⟨yI,(y26,()).1⟩]).bind fun r27=>((chk (decide ((List.length j+List.length [(r27.1,r27.2.1,r27.2.2.1,r27.2.2.2.1,())])*48≤70368744177664))).bind fun _=>(Z128.l1 R N a n b c d e f (w64 (g+1)) h i (j++[(r27.1,r27.2.1,r27.2.2.1,r27.2.2.2.1,())]) k l)))))) else(Z128.l0 R N a b c d (w64 (e+1)) h i j k l)):=(hw _ _).trans (by kernel_rfl)
theorem Z128.l0_succ(R:Run)(hw:R.ok)(N n:Nat)(a:(vK×Unit))(b:Int)(c:List Int)(d e f:Int)(g:vN)(h:vK)(i:List Int):Z128.l0 R N (n+1) a b c d e f g h i=(bif (decide (d<(List.length a.1:Int))) then((qdy R n_Z116 o_Z116 [⟨(.ptr yC),a⟩,⟨yI,d⟩]).bind fun r12=>(Z128.l1 R N n N a b c d r12.1 (0:Int) e f g h i)) else some ⟨o_Z128,(h,f,i,g,())⟩):=(hw _ _).trans (by kernel_rfl)
theorem Z128.ev(R:Run)(N:Nat)(a0:(vK×Unit))(a1:Int)(a2:List Int):qpj E R sg_Z128 pol_Z128 F_Z128 N [⟨(.ptr yC),a0⟩,⟨yI,a1⟩,⟨yL,a2⟩]=((qdy R n_Z124 o_Z124 [⟨(.ptr yC),a0⟩,⟨yI,(3:Int)⟩]).bind fun r1=>((qdy R n_Z102 o_Z102 [⟨yL,a2⟩]).bind fun r2=>(Z128.l0 R N N a0 a1 a2 (0:Int) (0:Int) a1 ([]:List vM) r1.1 r2.1))):=by kernel_rfl
def Z111.l0(R:Run)(N n:Nat)(a:List Int)(b e f:Int):Option Dv:=R.w (some ⟨(.c (.d yL a)::(.c (.d yI b)::(.c (.d yI e)::(zd 4 (.c (.d yI f)::(zd 18 [])))))),(zo 29 [])⟩) fun st=>lC R pol_Z111 2 N [1,0,1,0,0] F_Z111 n st (kB R pol_Z111 0 (kS R pol_Z111 6 N [1,1] F_Z111 (qpH E sg_Z111 F_Z111)))
theorem Z111.l0_succ(R:Run)(hw:R.ok)(N n:Nat)(a:List Int)(b c d:Int):Z111.l0 R N (n+1) a b c d=(bif (decide (d<(List.length a:Int))) then((idx? a d).bind fun y5=>((qdy R n_Z101 o_Z101 [⟨yI,(y5,()).1⟩,⟨yI,(0:Int)⟩,⟨yI,(w64 (c-1))⟩]).bind fun r6=>(bif (!r6.1) then some ⟨o_Z111,(false,())⟩ else(Z111.l0 R N n a b c (w64 (d+1)))))) else some ⟨o_Z111,(((List.length a:Int)==b),())⟩):=(hw _ _).trans (by kernel_rfl)
theorem Z111.ev(R:Run)(N:Nat)(a0:List Int)(a1 a2:Int):qpj E R sg_Z111 pol_Z111 F_Z111 N [⟨yL,a0⟩,⟨yI,a1⟩,⟨yI,a2⟩]=(Z111.l0 R N N a0 a1 a2 (0:Int)):=by kernel_rfl
def Z110.l0(R:Run)(N n:Nat)(a b:Int):Option Dv:=R.w (some ⟨(.c (.d yI a)::(V.dead::(V.dead::(.c (.d yI b)::(zd 14 []))))),(zo 19 [])⟩) fun st=>lC R pol_Z110 4 N [1,1,0,1,0,0] F_Z110 n st (kB R pol_Z110 0 (kS R pol_Z110 8 N [1,1,1] F_Z110 (qpH E sg_Z110 F_Z110)))
theorem Z110.l0_succ(R:Run)(hw:R.ok)(N n:Nat)(a b:Int):Z110.l0 R N (n+1) a b=(bif (decide ((w64 (b*b))≤a)) then((chk (b != 0)).bind fun _=>(bif ((Int.tmod a b)==(0:Int)) then some ⟨o_Z110,(false,())⟩ else(Z110.l0 R N n a (w64 (b+1))))) else some ⟨o_Z110,(true,())⟩):=(hw _ _).trans (by kernel_rfl)
theorem Z110.ev(R:Run)(N:Nat)(a0:Int):qpj E R sg_Z110 pol_Z110 F_Z110 N [⟨yI,a0⟩]=((qdy R n_Z101 o_Z101 [⟨yI,a0⟩,⟨yI,(2:Int)⟩,⟨yI,(251:Int)⟩]).bind fun r1=>(bif (!r1.1) then some ⟨o_Z110,(false,())⟩ else(Z110.l0 R N N a0 (2:Int)))):=by kernel_rfl
theorem Z99.ev(R:Run)(N:Nat)(a0:Int):qpj E R sg_Z99 pol_Z99 F_Z99 N [⟨yI,a0⟩]=((qdy R n_Z110 o_Z110 [⟨yI,a0⟩]).bind fun r1=>some ⟨o_Z99,(r1.1,())⟩):=by kernel_rfl
def Z119.l0(R:Run)(N n:Nat)(a:(vK×Unit))(b e:Int)(f:List Int):Option Dv:=R.w (some ⟨(.c (.ip yC a 0)::(.c (.d yI b)::(zd 3 (.c (.arr 7)::(.c (.d yI e)::(zd 26 [])))))),(zo 7 (some (.arr yI f true false false)::(zo 27 [])))⟩) fun st=>lC R pol_Z119 3 N [1,1,0,1,0,0] F_Z119 n st (kB R pol_Z119 0 (kS R pol_Z119 7 N [1,1,1] F_Z119 (qpH E sg_Z119 F_Z119)))
theorem Z119.l0_succ(R:Run)(hw:R.ok)(N n:Nat)(a:(vK×Unit))(b c:Int)(d:List Int):Z119.l0 R N (n+1) a b c d=(bif (decide (c<(List.length a.1:Int))) then((idx? a.1 c).bind fun y5=>(bif ((List.length (y5,()).1:Int)==(w64 (b+1))) then((chk (decide ((List.length d+List.length [c])*8≤70368744177664))).bind fun _=>(Z119.l0 R N n a b (w64 (c+1)) (d++[c]))) else(Z119.l0 R N n a b (w64 (c+1)) d))) else some ⟨o_Z119,(d,())⟩):=(hw _ _).trans (by kernel_rfl)
theorem Z119.ev(R:Run)(N:Nat)(a0:(vK×Unit))(a1:Int):qpj E R sg_Z119 pol_Z119 F_Z119 N [⟨(.ptr yC),a0⟩,⟨yI,a1⟩]=(Z119.l0 R N N a0 a1 (0:Int) ([]:List Int)):=by kernel_rfl
def Z132.l0(R:Run)(N n:Nat)(a b:List Int)(e f:Int):Option Dv:=R.w (some ⟨(V.dead::(.c (.d yL a)::(zd 5 (.c (.d yL b)::(.c (.d yI e)::(.c (.d yI f)::(zd 19 []))))))),(zo 32 [])⟩) fun st=>lC R pol_Z132 4 N [1,1,1,0,1,0,0] F_Z132 n st (kB R pol_Z132 0 (kS R pol_Z132 7 N [1,1,1,1] F_Z132 (qpH E sg_Z132 F_Z132)))
theorem Z132.l0_succ(R:Run)(hw:R.ok)(N n:Nat)(a b:List Int)(c d:Int):Z132.l0 R N (n+1) a b c d=(bif (decide (d<(List.length b:Int))) then((idx? b d).bind fun y6=>((idx? a (y6,()).1).bind fun y7=>(Z132.l0 R N n a b (w64 (c+(y7,()).1)) (w64 (d+1))))) else some ⟨o_Z132,(c,())⟩):=(hw _ _).trans (by kernel_rfl)
theorem Z132.ev(R:Run)(N:Nat)(a0:(vK×Unit))(a1:List Int)(a2:Int):qpj E R sg_Z132 pol_Z132 F_Z132 N [⟨(.ptr yC),a0⟩,⟨yL,a1⟩,⟨yI,a2⟩]=((qdy R n_Z119 o_Z119 [⟨(.ptr yC),a0⟩,⟨yI,a2⟩]).bind fun r1=>(Z132.l0 R N N a1 r1.1 (0:Int) (0:Int))):=by kernel_rfl
def Z131.l0(R:Run)(N n:Nat)(a:(vK×Unit))(b:List Int)(e:Int):Option Dv:=R.w (some ⟨(.c (.ip yC a 0)::(.c (.d yL b)::(zd 3 (.c (.d yI e)::(zd 17 []))))),(zo 25 [])⟩) fun st=>lC R pol_Z131 4 N [1,1,0,1,0,0] F_Z131 n st (kB R pol_Z131 0 (kS R pol_Z131 8 N [1,1,1] F_Z131 (qpH E sg_Z131 F_Z131)))
theorem Z131.l0_succ(R:Run)(hw:R.ok)(N n:Nat)(a:(vK×Unit))(b:List Int)(c:Int):Z131.l0 R N (n+1) a b c=(bif (decide (c≤(3:Int))) then((qdy R n_Z132 o_Z132 [⟨(.ptr yC),a⟩,⟨yL,b⟩,⟨yI,c⟩]).bind fun r5=>(bif (decide (r5.1>(32:Int))) then some ⟨o_Z131,(false,())⟩ else(Z131.l0 R N n a b (w64 (c+1))))) else some ⟨o_Z131,(true,())⟩):=(hw _ _).trans (by kernel_rfl)
theorem Z131.ev(R:Run)(N:Nat)(a0:(vK×Unit))(a1:List Int):qpj E R sg_Z131 pol_Z131 F_Z131 N [⟨(.ptr yC),a0⟩,⟨yL,a1⟩]=((qdy R n_Z111 o_Z111 [⟨yL,a1⟩,⟨yI,(List.length a0.1:Int)⟩,⟨yI,(4:Int)⟩]).bind fun r1=>(bif (!r1.1) then some ⟨o_Z131,(false,())⟩ else(Z131.l0 R N N a0 a1 (0:Int)))):=by kernel_rfl
def Z129.l0(R:Run)(N n:Nat)(a:(vK×Unit))(b e f g:Int):Option Dv:=R.w (some ⟨(.c (.ip yC a 0)::(.c (.d yI b)::(.c (.d yI e)::(zd 4 (.c (.d yI f)::(.c (.d yI g)::(zd 27 []))))))),(zo 39 [])⟩) fun st=>lC R pol_Z129 3 N [1,1,0,1,0,0] F_Z129 n st (kB R pol_Z129 0 (kS R pol_Z129 7 N [1,1,1] F_Z129 (qpH E sg_Z129 F_Z129)))
theorem Z129.l0_succ(R:Run)(hw:R.ok)(N n:Nat)(a:(vK×Unit))(b c d e:Int):Z129.l0 R N (n+1) a b c d e=(bif (decide (e<b)) then((idx? a.1 e).bind fun y6=>(bif (decide ((List.length (y6,()).1:Int)>(1:Int))) then((idx? a.1 e).bind fun y7=>(Z129.l0 R N n a b c (w64 (d+(List.length (y7,()).1:Int))) (w64 (e+1)))) else(Z129.l0 R N n a b c d (w64 (e+1))))) else some ⟨o_Z129,((w64 (d+c)),())⟩):=(hw _ _).trans (by kernel_rfl)
theorem Z129.ev(R:Run)(N:Nat)(a0:(vK×Unit))(a1 a2:Int):qpj E R sg_Z129 pol_Z129 F_Z129 N [⟨(.ptr yC),a0⟩,⟨yI,a1⟩,⟨yI,a2⟩]=(Z129.l0 R N N a0 a1 a2 (0:Int) (0:Int)):=by kernel_rfl
theorem Z127.ev(R:Run)(N:Nat)(a0:(vK×Unit)):qpj E R sg_Z127 pol_Z127 F_Z127 N [⟨(.ptr yC),a0⟩]=((qdy R n_Z129 o_Z129 [⟨(.ptr yC),a0⟩,⟨yI,(List.length a0.1:Int)⟩,⟨yI,(0:Int)⟩]).bind fun r1=>some ⟨o_Z127,(r1.1,())⟩):=by kernel_rfl
def Z130.j2(R:Run)(N a:Nat)(b:(List ByteArray))(e f:Int)(g:Bool)(h i:Int)(j:vN)(k:List Int)(l:vK)(m:List Int):Option Dv:=R.w (some ⟨(V.dead::(V.dead::(.c (.box 2 0)::(V.dead::(.c (.d (.sl .str) b)::(V.dead::(V.dead::(.c (.d yI e)::(zd 3 (.c (.box 11 0)::(.c (.d yI f)::(.c (.arr 114)::(zd 89 (.c (.d .bool g)::(zd 8 []))))))))))))))),(none::(none::(some (.box [.nils yL,.d yI h,.nils yI,.nils (.st yM)] false false)::(zo 8 (some (.box [.arr 115,.d yI i,.arr 116,.arr 113] false false)::(zo 101 (some (.arr (.st yM) j true false false)::(some (.arr yI k true false false)::(some (.arr yL l true false false)::(some (.arr yI m true false false)::[]))))))))))⟩) fun st=>eC R pol_Z130 N [1,1,1,1,1,1,1,1,0,1,0,0,1,0,0,1,0,1] F_Z130 st (kS R pol_Z130 16 N [1,1,1,1,1,1,1,1,0,1,0,0,1,0,0,1,1] F_Z130 (kB R pol_Z130 1 (kS R pol_Z130 12 N [1,1,1,1,1,1,1,1,0,1,0,0,1,1] F_Z130 (kL R pol_Z130 11 N [1,1,1,1,1,1,1,1,0,1,0,0] F_Z130 a (kB R pol_Z130 0 (kS R pol_Z130 17 N [1,1,1,1,1,1,1,1,1] F_Z130 (qpH E sg_Z130 F_Z130)))))))
def Z130.l1(R:Run)(N n:Nat)(a:(List ByteArray))(b e f g:Int)(h:vN)(i:vK)(j:List Int):Option Dv:=R.w (some ⟨(V.dead::(V.dead::(.c (.box 2 0)::(V.dead::(.c (.d (.sl .str) a)::(V.dead::(V.dead::(.c (.d yI b)::(zd 3 (.c (.box 11 0)::(.c (.d yI e)::(zd 99 [])))))))))))),(none::(none::(some (.box [.nils yL,.d yI f,.nils yI,.nils (.st yM)] false false)::(zo 8 (some (.box [.arr 115,.d yI g,.arr 116,.arr 113] false false)::(zo 101 (some (.arr (.st yM) h true false false)::(none::(some (.arr yL i true false false)::(some (.arr yI j true false false)::[]))))))))))⟩) fun st=>lC R pol_Z130 11 N [1,1,1,1,1,1,1,1,0,1,0,0] F_Z130 n st (kB R pol_Z130 0 (kS R pol_Z130 17 N [1,1,1,1,1,1,1,1,1] F_Z130 (qpH E sg_Z130 F_Z130)))
def Z130.j0(R:Run)(N:Nat)(a:(List ByteArray))(b:Int)(e:List Int)(f:Bool)(g:Int)(h:vK):Option Dv:=R.w (some ⟨(V.dead::(V.dead::(.c (.box 2 0)::(V.dead::(.c (.d (.sl .str) a)::(.c (.box 5 0)::(V.dead::(.c (.d yI b)::(V.dead::(.c (.d yL e)::(zd 58 (.c (.d .bool f)::(zd 43 []))))))))))))),(none::(none::(some (.box [.nils yL,.d yI g,.nils yI,.nils (.st yM)] false false)::(none::(none::(some (.box [.d yK h] false false)::(zo 111 [])))))))⟩) fun st=>eC R pol_Z130 N [1,1,1,1,1,1,0,1] F_Z130 st (kS R pol_Z130 9 N [1,1,1,1,1,1,1] F_Z130 (qpH E sg_Z130 F_Z130))
theorem Z130.j2_eq(R:Run)(hw:R.ok)(N a:Nat)(b:(List ByteArray))(c d:Int)(e:Bool)(f g:Int)(h:vN)(i:List Int)(j:vK)(k:List Int):Z130.j2 R N a b c d e f g h i j k=(bif e then some ⟨o_Z130,(([]:List (List Int)),(0:Int),([]:List Int),([]:List vM),false,())⟩ else((chk (decide (0≤d)&&decide (d<(List.length h:Int)))).bind fun _=>(Option.bind (h)[(Int.toNat d)]? fun y35=>(Z130.l1 R N a b c (w64 (d+1)) f g (List.set h (Int.toNat d) (y35.1,y35.2.1,y35.2.2.1,i,())) j k)))):=(hw _ _).trans (by kernel_rfl)
theorem Z130.l1_succ(R:Run)(hw:R.ok)(N n:Nat)(a:(List ByteArray))(b c d e:Int)(f:vN)(g:vK)(h:List Int):Z130.l1 R N (n+1) a b c d e f g h=(bif (decide (c<(List.length f:Int))) then((idx? a (w64 ((3:Int)+c))).bind fun y23=>((qdy R n_Z97 o_Z97 [⟨.str,(y23,()).1⟩]).bind fun r24=>(bif (!r24.2.1) then(Z130.j2 R N n a b c true d e f r24.1 g h) else((chk (decide (0≤c)&&decide (c<(List.length f:Int)))).bind fun _=>(Option.bind (f)[(Int.toNat c)]? fun y44=>((qdy R n_Z111 o_Z111 [⟨yL,r24.1⟩,⟨yI,((List.length y44.2.2.2.1):Int)⟩,⟨yI,b⟩]).bind fun r45=>(Z130.j2 R N n a b c (!r45.1) d e f r24.1 g h))))))) else some ⟨o_Z130,(g,e,h,f,true,())⟩):=(hw _ _).trans (by kernel_rfl)
theorem Z130.j0_eq(R:Run)(hw:R.ok)(N:Nat)(a:(List ByteArray))(b:Int)(c:List Int)(d:Bool)(e:Int)(f:vK):Z130.j0 R N a b c d e f=(bif d then some ⟨o_Z130,(([]:List (List Int)),(0:Int),([]:List Int),([]:List vM),false,())⟩ else((qdy R n_Z128 o_Z128 [⟨(.ptr yC),(f,())⟩,⟨yI,b⟩,⟨yL,c⟩]).bind fun r14=>(Z130.l1 R N N a b (0:Int) e r14.2.1 r14.2.2.2.1 r14.1 r14.2.2.1))):=(hw _ _).trans (by kernel_rfl)
theorem Z130.ev(R:Run)(N:Nat)(a0:ByteArray):qpj E R sg_Z130 pol_Z130 F_Z130 N [⟨.str,a0⟩]=((qdy R n_Z109 o_Z109 [⟨.str,a0⟩,⟨(.int .u8),(59:Int)⟩]).bind fun r1=>(bif (decide ((List.length r1.1:Int)<(3:Int))) then some ⟨o_Z130,(([]:List (List Int)),(0:Int),([]:List Int),([]:List vM),false,())⟩ else((idx? r1.1 (0:Int)).bind fun y2=>((qdy R n_Z122 o_Z122 [⟨.str,(y2,()).1⟩]).bind fun r3=>((idx? r1.1 (1:Int)).bind fun y4=>((qdy R n_Z108 o_Z108 [⟨.str,(y4,()).1⟩]).bind fun r5=>((idx? r1.1 (2:Int)).bind fun y6=>((qdy R n_Z97 o_Z97 [⟨.str,(y6,()).1⟩]).bind fun r7=>(bif (!r3.2.1) then(Z130.j0 R N r1.1 r5.1 r7.1 true (0:Int) r3.1) else(bif (!r5.2.1) then(Z130.j0 R N r1.1 r5.1 r7.1 true (0:Int) r3.1) else(bif (!r7.2.1) then(Z130.j0 R N r1.1 r5.1 r7.1 true (0:Int) r3.1) else((qdy R n_Z99 o_Z99 [⟨yI,r5.1⟩]).bind fun r68=>(bif (!r68.1) then(Z130.j0 R N r1.1 r5.1 r7.1 true (0:Int) r3.1) else((qdy R n_Z131 o_Z131 [⟨(.ptr yC),(r3.1,())⟩,⟨yL,r7.1⟩]).bind fun r75=>(bif (!r75.1) then(Z130.j0 R N r1.1 r5.1 r7.1 true (0:Int) r3.1) else((qdy R n_Z127 o_Z127 [⟨(.ptr yC),(r3.1,())⟩]).bind fun r82=>(Z130.j0 R N r1.1 r5.1 r7.1 ((List.length r1.1:Int) != (w64 ((3:Int)+r82.1))) (0:Int) r3.1))))))))))))))))):=by kernel_rfl
theorem Z98.ev(R:Run)(N:Nat)(a0:ByteArray):qpj E R sg_Z98 pol_Z98 F_Z98 N [⟨.str,a0⟩]=((qdy R n_Z130 o_Z130 [⟨.str,a0⟩]).bind fun r1=>some ⟨o_Z98,(r1.1,r1.2.1,r1.2.2.1,r1.2.2.2.1,r1.2.2.2.2.1,())⟩):=by kernel_rfl
theorem Z49.ev(R:Run)(N:Nat)(a0 a1 a2:Int):qpj E R sg_Z49 pol_Z49 F_Z49 N [⟨yI,a0⟩,⟨yI,a1⟩,⟨yI,a2⟩]=(bif (decide (a0≥a1)) then some ⟨o_Z49,((decide (a0≤a2)),())⟩ else some ⟨o_Z49,(false,())⟩):=by kernel_rfl
theorem Z42.ev(R:Run)(N:Nat)(a0:Int):qpj E R sg_Z42 pol_Z42 F_Z42 N [⟨yI,a0⟩]=((qdy R n_Z49 o_Z49 [⟨yI,a0⟩,⟨yI,(-1000000000000:Int)⟩,⟨yI,(1000000000000:Int)⟩]).bind fun r1=>some ⟨o_Z42,(r1.1,())⟩):=by kernel_rfl
theorem Z10.ev(R:Run)(N:Nat)(a0:Int):qpj E R sg_Z10 pol_Z10 F_Z10 N [⟨yI,a0⟩]=((qdy R n_Z42 o_Z42 [⟨yI,a0⟩]).bind fun r1=>some ⟨o_Z10,((!r1.1),())⟩):=by kernel_rfl
def Z89.l0(R:Run)(N n:Nat)(a:List Int)(b e:Int):Option Dv:=R.w (some ⟨(.c (.d yL a)::(.c (.d (.fn n_Z10 .nil) ())::(zd 5 (.c (.d yI b)::(.c (.d yI e)::(zd 10 [])))))),(zo 21 [])⟩) fun st=>q0_1 R N n st (kB R pol_Z88 0 (q0_0 R N (qpH E sg_Z88 F_Z88)))
theorem Z89.l0_succ(R:Run)(hw:R.ok)(N n:Nat)(a:List Int)(b c:Int):Z89.l0 R N (n+1) a b c=(bif (decide (c<b)) then((idx? a c).bind fun y4=>((qdy R n_Z10 o_Z10 [⟨yI,(y4,()).1⟩]).bind fun r5=>(bif r5.1 then some ⟨o_Z88,(c,())⟩ else(Z89.l0 R N n a b (w64 (c+1)))))) else some ⟨o_Z88,((-1:Int),())⟩):=(hw _ _).trans (by kernel_rfl)
theorem Z89.ev(R:Run)(N:Nat)(a0:List Int):qpj E R sg_Z88 pol_Z88 F_Z88 N [⟨yL,a0⟩,⟨(.fn n_Z10 .nil),()⟩]=(Z89.l0 R N N a0 (List.length a0:Int) (0:Int)):=by kernel_rfl
theorem Z77.ev(R:Run)(N:Nat)(a0:List Int):qpj E R sg_Z76 pol_Z76 F_Z76 N [⟨yL,a0⟩,⟨(.fn n_Z10 .nil),()⟩]=((qdy R n_Z88 o_Z88 [⟨yL,a0⟩,⟨(.fn n_Z10 .nil),()⟩]).bind fun r1=>some ⟨o_Z76,((decide (r1.1≥(0:Int))),())⟩):=by kernel_rfl
theorem Z8.ev(R:Run)(N:Nat)(a0:Int):qpj E R sg_Z8 pol_Z8 F_Z8 N [⟨yI,a0⟩]=((qdy R n_Z133 o_Z133 [⟨yI,a0⟩,⟨yI,(10:Int)⟩]).bind fun r1=>some ⟨o_Z8,(r1.1,())⟩):=by kernel_rfl
def Z9.l1(R:Run)(N n:Nat)(a:List Int)(b e:Int)(f:(List ByteArray)):Option Dv:=R.w (some ⟨(zd 3 (.c (.arr 26)::(zd 12 (.c (.d yL a)::(.c (.d yI b)::(.c (.d yI e)::(zd 11 []))))))),(zo 26 (some (.arr .str f true false false)::(zo 4 [])))⟩) fun st=>lC R pol_Z9 7 N [1,1,1,1,0,1,0,0] F_Z9 n st (kB R pol_Z9 0 (kS R pol_Z9 11 N [1,1,1,1,1] F_Z9 (qpH E sg_Z9 F_Z9)))
def Z9.j0(R:Run)(N:Nat)(a:List Int)(b:Bool):Option Dv:=R.w (some ⟨(.c (.d yL a)::(zd 11 (.c (.d .bool b)::(zd 17 [])))),(zo 31 [])⟩) fun st=>eC R pol_Z9 N [1,0,1] F_Z9 st (kS R pol_Z9 3 N [1,1] F_Z9 (qpH E sg_Z9 F_Z9))
theorem Z9.l1_succ(R:Run)(hw:R.ok)(N n:Nat)(a:List Int)(b c:Int)(d:(List ByteArray)):Z9.l1 R N (n+1) a b c d=(bif (decide (c<b)) then((idx? a c).bind fun y7=>((qdy R n_Z8 o_Z8 [⟨yI,(y7,()).1⟩]).bind fun r8=>((chk (decide ((List.length d+List.length [r8.1])*16≤70368744177664))).bind fun _=>(Z9.l1 R N n a b (w64 (c+1)) (d++[r8.1]))))) else((qdy R n_Z134 o_Z134 [⟨(.sl .str),d⟩,⟨.str,(ByteArray.mk #[44])⟩]).bind fun r13=>some ⟨o_Z9,(r13.1,())⟩)):=(hw _ _).trans (by kernel_rfl)
theorem Z9.j0_eq(R:Run)(hw:R.ok)(N:Nat)(a:List Int)(b:Bool):Z9.j0 R N a b=(bif b then some ⟨o_Z9,((ByteArray.mk #[]),())⟩ else(bif ((List.length a:Int)==(0:Int)) then some ⟨o_Z9,((ByteArray.mk #[45]),())⟩ else(Z9.l1 R N N a (List.length a:Int) (0:Int) ([]:List ByteArray)))):=(hw _ _).trans (by kernel_rfl)
theorem Z9.ev(R:Run)(N:Nat)(a0:List Int):qpj E R sg_Z9 pol_Z9 F_Z9 N [⟨yL,a0⟩]=(bif (decide ((List.length a0:Int)>(64:Int))) then(Z9.j0 R N a0 true) else((qdy R n_Z76 o_Z76 [⟨yL,a0⟩,⟨(.fn n_Z10 .nil),()⟩]).bind fun r14=>(Z9.j0 R N a0 r14.1))):=by kernel_rfl
def Z13.l0(R:Run)(N n:Nat)(a:ByteArray)(b:(List ByteArray))(e f:Int)(g:List Int):Option Dv:=R.w (some ⟨(.c (.d .str a)::(zd 3 (.c (.arr 26)::(zd 7 (.c (.d (.sl .str) b)::(.c (.d yI e)::(.c (.d yI f)::(zd 18 [])))))))),(zo 26 (some (.arr yI g true false false)::(zo 7 [])))⟩) fun st=>lC R pol_Z13 5 N [1,1,1,0,1,0,0] F_Z13 n st (kB R pol_Z13 0 (kS R pol_Z13 10 N [1,1,1,1] F_Z13 (qpH E sg_Z13 F_Z13)))
theorem Z13.l0_succ(R:Run)(hw:R.ok)(N n:Nat)(a:ByteArray)(b:(List ByteArray))(c d:Int)(e:List Int):Z13.l0 R N (n+1) a b c d e=(bif (decide (d<c)) then((idx? b d).bind fun y7=>((qdy R n_Z12 o_Z12 [⟨.str,(y7,()).1⟩]).bind fun r8=>((chk (decide ((List.length e+List.length [r8.1])*8≤70368744177664))).bind fun _=>(Z13.l0 R N n a b c (w64 (d+1)) (e++[r8.1]))))) else((qdy R n_Z9 o_Z9 [⟨yL,e⟩]).bind fun r14=>(bif (!(ByteArray.toList r14.1==ByteArray.toList a)) then some ⟨o_Z13,(([]:List Int),false,())⟩ else some ⟨o_Z13,(e,true,())⟩))):=(hw _ _).trans (by kernel_rfl)
theorem Z13.ev(R:Run)(N:Nat)(a0:ByteArray):qpj E R sg_Z13 pol_Z13 F_Z13 N [⟨.str,a0⟩]=(bif (ByteArray.toList a0==ByteArray.toList (ByteArray.mk #[45])) then some ⟨o_Z13,(([]:List Int),true,())⟩ else((qdy R n_Z135 o_Z135 [⟨.str,a0⟩,⟨.str,(ByteArray.mk #[44])⟩]).bind fun r1=>(Z13.l0 R N N a0 r1.1 (List.length r1.1:Int) (0:Int) ([]:List Int)))):=by kernel_rfl
def Z40.l0(R:Run)(N n:Nat)(a:List Int)(b:Int):Option Dv:=R.w (some ⟨(.c (.d yL a)::(V.dead::(V.dead::(.c (.d yI b)::(zd 16 []))))),(zo 21 [])⟩) fun st=>lC R pol_Z40 2 N [1,0,1,0,0] F_Z40 n st (kB R pol_Z40 0 (kS R pol_Z40 6 N [1,1] F_Z40 (qpH E sg_Z40 F_Z40)))
theorem Z40.l0_succ(R:Run)(hw:R.ok)(N n:Nat)(a:List Int)(b:Int):Z40.l0 R N (n+1) a b=(bif (decide (b<(List.length a:Int))) then((idx? a (w64 (b-1))).bind fun y3=>((idx? a b).bind fun y4=>(bif (decide ((y3,()).1≥(y4,()).1)) then some ⟨o_Z40,(false,())⟩ else(Z40.l0 R N n a (w64 (b+1)))))) else some ⟨o_Z40,(true,())⟩):=(hw _ _).trans (by kernel_rfl)
theorem Z40.ev(R:Run)(N:Nat)(a0:List Int):qpj E R sg_Z40 pol_Z40 F_Z40 N [⟨yL,a0⟩]=(Z40.l0 R N N a0 (1:Int)):=by kernel_rfl
theorem Z43.ev(R:Run)(N:Nat)(a0:Int):qpj E R sg_Z43 pol_Z43 F_Z43 N [⟨yI,a0⟩]=((qdy R n_Z49 o_Z49 [⟨yI,a0⟩,⟨yI,(0:Int)⟩,⟨yI,(9:Int)⟩]).bind fun r1=>some ⟨o_Z43,(r1.1,())⟩):=by kernel_rfl
theorem Z22.ev(R:Run)(N:Nat)(a0:Int):qpj E R sg_Z22 pol_Z22 F_Z22 N [⟨yI,a0⟩]=((qdy R n_Z43 o_Z43 [⟨yI,a0⟩]).bind fun r1=>some ⟨o_Z22,((!r1.1),())⟩):=by kernel_rfl
def Z90.l0(R:Run)(N n:Nat)(a:List Int)(b e:Int):Option Dv:=R.w (some ⟨(.c (.d yL a)::(.c (.d (.fn n_Z22 .nil) ())::(zd 5 (.c (.d yI b)::(.c (.d yI e)::(zd 10 [])))))),(zo 21 [])⟩) fun st=>q0_1 R N n st (kB R pol_Z88 0 (q0_0 R N (qpH E sg_Z88 F_Z88)))
theorem Z90.l0_succ(R:Run)(hw:R.ok)(N n:Nat)(a:List Int)(b c:Int):Z90.l0 R N (n+1) a b c=(bif (decide (c<b)) then((idx? a c).bind fun y4=>((qdy R n_Z22 o_Z22 [⟨yI,(y4,()).1⟩]).bind fun r5=>(bif r5.1 then some ⟨o_Z88,(c,())⟩ else(Z90.l0 R N n a b (w64 (c+1)))))) else some ⟨o_Z88,((-1:Int),())⟩):=(hw _ _).trans (by kernel_rfl)
theorem Z90.ev(R:Run)(N:Nat)(a0:List Int):qpj E R sg_Z88 pol_Z88 F_Z88 N [⟨yL,a0⟩,⟨(.fn n_Z22 .nil),()⟩]=(Z90.l0 R N N a0 (List.length a0:Int) (0:Int)):=by kernel_rfl
theorem Z78.ev(R:Run)(N:Nat)(a0:List Int):qpj E R sg_Z76 pol_Z76 F_Z76 N [⟨yL,a0⟩,⟨(.fn n_Z22 .nil),()⟩]=((qdy R n_Z88 o_Z88 [⟨yL,a0⟩,⟨(.fn n_Z22 .nil),()⟩]).bind fun r1=>some ⟨o_Z76,((decide (r1.1≥(0:Int))),())⟩):=by kernel_rfl
theorem Z21.ev(R:Run)(N:Nat)(a0:List Int):qpj E R sg_Z21 pol_Z21 F_Z21 N [⟨yL,a0⟩]=(bif (decide ((List.length a0:Int)≥(1:Int))) then(bif (decide ((List.length a0:Int)≤(4:Int))) then((qdy R n_Z40 o_Z40 [⟨yL,a0⟩]).bind fun r1=>(bif r1.1 then((qdy R n_Z76 o_Z76 [⟨yL,a0⟩,⟨(.fn n_Z22 .nil),()⟩]).bind fun r2=>some ⟨o_Z21,((!r2.1),())⟩) else some ⟨o_Z21,(false,())⟩)) else some ⟨o_Z21,(false,())⟩) else some ⟨o_Z21,(false,())⟩):=by kernel_rfl
theorem Z6.ev(R:Run)(N:Nat)(a0:List Int):qpj E R sg_Z6 pol_Z6 F_Z6 N [⟨yL,a0⟩]=((qdy R n_Z21 o_Z21 [⟨yL,a0⟩]).bind fun r1=>some ⟨o_Z6,((!r1.1),())⟩):=by kernel_rfl
def Z86.l0(R:Run)(N n:Nat)(a:vK)(b e:Int):Option Dv:=R.w (some ⟨(.c (.d yK a)::(.c (.d (.fn n_Z6 .nil) ())::(zd 5 (.c (.d yI b)::(.c (.d yI e)::(zd 10 [])))))),(zo 21 [])⟩) fun st=>lC R pol_Z85 2 N [1,0,1,0,0] F_Z85 n st (kB R pol_Z85 0 (kS R pol_Z85 7 N [1,1] F_Z85 (qpH E sg_Z85 F_Z85)))
theorem Z86.l0_succ(R:Run)(hw:R.ok)(N n:Nat)(a:vK)(b c:Int):Z86.l0 R N (n+1) a b c=(bif (decide (c<b)) then((idx? a c).bind fun y4=>((qdy R n_Z6 o_Z6 [⟨yL,(y4,()).1⟩]).bind fun r5=>(bif r5.1 then some ⟨o_Z85,(c,())⟩ else(Z86.l0 R N n a b (w64 (c+1)))))) else some ⟨o_Z85,((-1:Int),())⟩):=(hw _ _).trans (by kernel_rfl)
theorem Z86.ev(R:Run)(N:Nat)(a0:vK):qpj E R sg_Z85 pol_Z85 F_Z85 N [⟨yK,a0⟩,⟨(.fn n_Z6 .nil),()⟩]=(Z86.l0 R N N a0 (List.length a0:Int) (0:Int)):=by kernel_rfl
theorem Z74.ev(R:Run)(N:Nat)(a0:vK):qpj E R sg_Z73 pol_Z73 F_Z73 N [⟨yK,a0⟩,⟨(.fn n_Z6 .nil),()⟩]=((qdy R n_Z85 o_Z85 [⟨yK,a0⟩,⟨(.fn n_Z6 .nil),()⟩]).bind fun r1=>some ⟨o_Z73,((decide (r1.1≥(0:Int))),())⟩):=by kernel_rfl
def Z69.j0(R:Run)(N:Nat)(a:List Int)(b:Bool):Option Dv:=R.w (some ⟨(.c (.d yL a)::(zd 3 (.c (.d .bool b)::(zd 3 [])))),(zo 9 [])⟩) fun st=>eC R pol_Z69 N [1,0,1] F_Z69 st (kS R pol_Z69 3 N [1,1] F_Z69 (qpH E sg_Z69 F_Z69))
theorem Z69.j0_eq(R:Run)(hw:R.ok)(N:Nat)(a:List Int)(b:Bool):Z69.j0 R N a b=(bif b then some ⟨o_Z69,(([]:List Int),())⟩ else((chk (decide ((List.length ([]:List Int)+List.length a)*8≤70368744177664))).bind fun _=>some ⟨o_Z69,((([]:List Int)++a),())⟩)):=(hw _ _).trans (by kernel_rfl)
theorem Z69.ev(R:Run)(N:Nat)(a0:List Int):qpj E R sg_Z69 pol_Z69 F_Z69 N [⟨yL,a0⟩]=(bif (List.isEmpty a0) then(qol (Z69.j0 R N a0 true) (Z69.j0 R N a0 false)) else(Z69.j0 R N a0 false)):=by kernel_rfl
def Z30.l0(R:Run)(N n:Nat)(a:vK)(b e:Int)(f:vK):Option Dv:=R.w (some ⟨(zd 3 (.c (.arr 16)::(V.dead::(V.dead::(.c (.d yK a)::(.c (.d yI b)::(.c (.d yI e)::(zd 10 [])))))))),(zo 16 (some (.arr yL f true false false)::(zo 4 [])))⟩) fun st=>lC R pol_Z30 3 N [1,1,0,1,0,0] F_Z30 n st (kB R pol_Z30 0 (kS R pol_Z30 7 N [1,1,1] F_Z30 (qpH E sg_Z30 F_Z30)))
theorem Z30.l0_succ(R:Run)(hw:R.ok)(N n:Nat)(a:vK)(b c:Int)(d:vK):Z30.l0 R N (n+1) a b c d=(bif (decide (c<b)) then((idx? a c).bind fun y5=>((qdy R n_Z69 o_Z69 [⟨yL,(y5,()).1⟩]).bind fun r6=>((chk (decide ((List.length d+List.length [r6.1])*24≤70368744177664))).bind fun _=>(Z30.l0 R N n a b (w64 (c+1)) (d++[r6.1]))))) else some ⟨o_Z30,(d,())⟩):=(hw _ _).trans (by kernel_rfl)
theorem Z30.ev(R:Run)(N:Nat)(a0:vK):qpj E R sg_Z30 pol_Z30 F_Z30 N [⟨yK,a0⟩]=(Z30.l0 R N N a0 (List.length a0:Int) (0:Int) ([]:List (List Int))):=by kernel_rfl
def Z72.l1(R:Run)(N n:Nat)(a:vK)(b e:Int)(f:List Int):Option Dv:=R.w (some ⟨(zd 6 (.c (.arr 37)::(zd 18 (.c (.d yK a)::(.c (.d yI b)::(.c (.d yI e)::(zd 8 []))))))),(zo 37 (some (.arr yI f true false false)::[]))⟩) fun st=>lC R pol_Z72 11 N [1,1,1,1,0,1,0,0] F_Z72 n st (kB R pol_Z72 2 (kS R pol_Z72 15 N [1,1,1,1,1] F_Z72 (qpH E sg_Z72 F_Z72)))
def Z72.l0(R:Run)(N n:Nat)(a:vK)(b:Int)(e:vK)(f g:Int):Option Dv:=R.w (some ⟨(.c (.d yK a)::(V.dead::(V.dead::(.c (.d yI b)::(zd 5 (.c (.d yK e)::(.c (.d yI f)::(.c (.d yI g)::(zd 24 []))))))))),(zo 38 [])⟩) fun st=>lC R pol_Z72 3 N [1,1,0,1,0,0] F_Z72 n st (kB R pol_Z72 0 (kS R pol_Z72 9 N [1,1,1] F_Z72 (qpH E sg_Z72 F_Z72)))
theorem Z72.l1_succ(R:Run)(hw:R.ok)(N n:Nat)(a:vK)(b c:Int)(d:List Int):Z72.l1 R N (n+1) a b c d=(bif (decide (c<b)) then((idx? a c).bind fun y17=>((chk (decide ((List.length d+List.length (y17,()).1)*8≤70368744177664))).bind fun _=>(Z72.l1 R N n a b (w64 (c+1)) (d++(y17,()).1)))) else some ⟨o_Z72,(d,())⟩):=(hw _ _).trans (by kernel_rfl)
theorem Z72.l0_succ(R:Run)(hw:R.ok)(N n:Nat)(a:vK)(b:Int)(c:vK)(d e:Int):Z72.l0 R N (n+1) a b c d e=(bif (decide (e<d)) then((idx? c e).bind fun y6=>(bif (decide ((w64 (b+(List.length (y6,()).1:Int)))<(0:Int))) then none else(Z72.l0 R N n a (w64 (b+(List.length (y6,()).1:Int))) c d (w64 (e+1))))) else((qdy R n_Z84 o_Z84 [⟨yL,([]:List Int)⟩,⟨yI,b⟩]).bind fun r12=>(Z72.l1 R N N a (List.length a:Int) (0:Int) r12.1))):=(hw _ _).trans (by kernel_rfl)
theorem Z72.ev(R:Run)(N:Nat)(a0:vK):qpj E R sg_Z72 pol_Z72 F_Z72 N [⟨yK,a0⟩]=(Z72.l0 R N N a0 (0:Int) a0 (List.length a0:Int) (0:Int)):=by kernel_rfl
def Z32.l0(R:Run)(N n:Nat)(a:List Int)(b e:Int)(f:vK):Option Dv:=R.w (some ⟨(.c (.d yL a)::(V.dead::(V.dead::(.c (.arr 24)::(V.dead::(V.dead::(.c (.d yI b)::(.c (.d yI e)::(zd 19 []))))))))),(zo 24 (some (.arr yL f true false false)::(zo 4 [])))⟩) fun st=>lC R pol_Z32 3 N [1,1,0,1,0,0] F_Z32 n st (kB R pol_Z32 0 (kS R pol_Z32 8 N [1,1,1] F_Z32 (qpH E sg_Z32 F_Z32)))
theorem Z32.l0_succ(R:Run)(hw:R.ok)(N n:Nat)(a:List Int)(b c:Int)(d:vK):Z32.l0 R N (n+1) a b c d=(bif (decide (c<b)) then(bif (decide ((List.length a:Int)>(1:Int))) then((chk (decide (0≤c)&&decide (c≤(List.length a:Int)))).bind fun _=>((chk (decide (0≤(w64 (c+1)))&&decide ((w64 (c+1))≤(List.length a:Int)))).bind fun _=>((qdy R n_Z72 o_Z72 [⟨yK,[(List.take (Int.toNat c) a),(List.drop (Int.toNat (w64 (c+1))) a)]⟩]).bind fun r5=>((chk (decide ((List.length d+List.length [r5.1])*24≤70368744177664))).bind fun _=>(Z32.l0 R N n a b (w64 (c+1)) (d++[r5.1])))))) else(Z32.l0 R N n a b (w64 (c+1)) d)) else some ⟨o_Z32,(d,())⟩):=(hw _ _).trans (by kernel_rfl)
theorem Z32.ev(R:Run)(N:Nat)(a0:List Int):qpj E R sg_Z32 pol_Z32 F_Z32 N [⟨yL,a0⟩]=(Z32.l0 R N N a0 (List.length a0:Int) (0:Int) ([]:List (List Int))):=by kernel_rfl
theorem Z3.ev(R:Run)(N:Nat)(a0:Int):qpj E R sg_Z3 pol_Z3 F_Z3 N [⟨yI,a0⟩]=some ⟨o_Z3,((a0 != a0),())⟩:=by kernel_rfl
theorem Z0.ev(R:Run)(N:Nat)(a0 a1:Int):qpj E R sg_Z0 pol_Z0 F_Z0 N [⟨yI,a0⟩,⟨yI,a1⟩]=((qdy R n_Z3 o_Z3 [⟨yI,a0⟩]).bind fun r1=>((qdy R n_Z3 o_Z3 [⟨yI,a1⟩]).bind fun r2=>(bif r1.1 then(bif r2.1 then some ⟨o_Z0,((0:Int),())⟩ else some ⟨o_Z0,((-1:Int),())⟩) else(bif r2.1 then some ⟨o_Z0,((1:Int),())⟩ else(bif (decide (a0<a1)) then some ⟨o_Z0,((-1:Int),())⟩ else(bif (decide (a0>a1)) then some ⟨o_Z0,((1:Int),())⟩ else some ⟨o_Z0,((0:Int),())⟩)))))):=by kernel_rfl
theorem Z4.ev(R:Run)(N:Nat)(a0:Int):qpj E R sg_Z4 pol_Z4 F_Z4 N [⟨yI,a0⟩]=some ⟨o_Z4,((a0 != a0),())⟩:=by kernel_rfl
theorem Z1.ev(R:Run)(N:Nat)(a0 a1:Int):qpj E R sg_Z1 pol_Z1 F_Z1 N [⟨yI,a0⟩,⟨yI,a1⟩]=((qdy R n_Z4 o_Z4 [⟨yI,a0⟩]).bind fun r1=>((qdy R n_Z4 o_Z4 [⟨yI,a1⟩]).bind fun r2=>(bif r1.1 then(bif r2.1 then some ⟨o_Z1,((0:Int),())⟩ else some ⟨o_Z1,((-1:Int),())⟩) else(bif r2.1 then some ⟨o_Z1,((1:Int),())⟩ else(bif (decide (a0<a1)) then some ⟨o_Z1,((-1:Int),())⟩ else(bif (decide (a0>a1)) then some ⟨o_Z1,((1:Int),())⟩ else some ⟨o_Z1,((0:Int),())⟩)))))):=by kernel_rfl
def Z71.l0(R:Run)(N n:Nat)(a b e:List Int)(f g:Int):Option Dv:=R.w (some ⟨(.c (.d yL a)::(.c (.d yL b)::(zd 7 (.c (.d yL e)::(.c (.d yI f)::(.c (.d yI g)::(zd 24 []))))))),(zo 38 [])⟩) fun st=>lC R pol_Z71 2 N [1,0,1,0,0] F_Z71 n st (kB R pol_Z71 0 (kS R pol_Z71 11 N [1,1] F_Z71 (qpH E sg_Z71 F_Z71)))
theorem Z71.l0_succ(R:Run)(hw:R.ok)(N n:Nat)(a b c:List Int)(d e:Int):Z71.l0 R N (n+1) a b c d e=(bif (decide (e<d)) then((idx? c e).bind fun y6=>(bif (decide (e≥(List.length b:Int))) then some ⟨o_Z71,((1:Int),())⟩ else((idx? b e).bind fun y7=>((qdy R n_Z1 o_Z1 [⟨yI,(y6,()).1⟩,⟨yI,(y7,()).1⟩]).bind fun r8=>(bif (r8.1 != (0:Int)) then some ⟨o_Z71,(r8.1,())⟩ else(Z71.l0 R N n a b c d (w64 (e+1)))))))) else(bif (decide ((List.length a:Int)<(List.length b:Int))) then some ⟨o_Z71,((-1:Int),())⟩ else some ⟨o_Z71,((0:Int),())⟩)):=(hw _ _).trans (by kernel_rfl)
theorem Z71.ev(R:Run)(N:Nat)(a0 a1:List Int):qpj E R sg_Z71 pol_Z71 F_Z71 N [⟨yL,a0⟩,⟨yL,a1⟩]=(Z71.l0 R N N a0 a1 a0 (List.length a0:Int) (0:Int)):=by kernel_rfl
def Z2.l0(R:Run)(N n:Nat)(a:Int)(b:List Int)(e f:Int):Option Dv:=R.w (some ⟨(zd 3 (.c (.d yI a)::(V.dead::(V.dead::(.c (.d yL b)::(.c (.d yI e)::(.c (.d yI f)::(zd 9 [])))))))),(zo 19 [])⟩) fun st=>lC R pol_Z2 3 N [1,1,0,1,0,0] F_Z2 n st (kB R pol_Z2 0 (kS R pol_Z2 8 N [1,1,1] F_Z2 (qpH E sg_Z2 F_Z2)))
theorem Z2.l0_succ(R:Run)(hw:R.ok)(N n:Nat)(a:Int)(b:List Int)(c d:Int):Z2.l0 R N (n+1) a b c d=(bif (decide (d<c)) then((idx? b d).bind fun y5=>(bif ((y5,()).1 != a) then some ⟨o_Z2,((y5,()).1,())⟩ else(Z2.l0 R N n a b c (w64 (d+1))))) else some ⟨o_Z2,(a,())⟩):=(hw _ _).trans (by kernel_rfl)
theorem Z2.ev(R:Run)(N:Nat)(a0:List Int):qpj E R sg_Z2 pol_Z2 F_Z2 N [⟨yL,a0⟩]=(Z2.l0 R N N (0:Int) a0 (List.length a0:Int) (0:Int)):=by kernel_rfl
end
end VeT
