import Derived.Test.YtagdejckmpipbaaGreatDoorV2
import Derived.Test.YtagdejckmpipbaaGreatDoorProg
import Derived.KernelRfl
set_option linter.unusedVariables false
set_option linter.unusedSimpArgs false
open Go Go.Proofs Ve
set_option maxRecDepth 100000
namespace VeT
abbrev yM : Ty := .cons (.int .i64) (.cons (.int .i64) (.cons (.int .i64) (.cons (.sl (.int .i64)) .nil)))
abbrev yI : Ty := .int .i64
abbrev yL : Ty := .sl yI
abbrev yK : Ty := .sl yL
abbrev yN : Ty := .sl (.st yM)
abbrev yS : Ty := .cons yK (.cons yI (.cons yL (.cons yN .nil)))
abbrev yR : Ty := .cons (.sl (.int .u8)) (.cons yI (.cons (.int .u64) .nil))
abbrev yC : Ty := .cons yK .nil
abbrev vM := Int × Int × Int × List Int × Unit
abbrev vK := List (List Int)
abbrev vN := List vM
abbrev vS := vK × Int × List Int × vN × Unit
noncomputable section
def bodyOf(f:Func):Code:=f.body.getD .skip
def zd:Nat→List Ve.V→List Ve.V
  | 0,t=>t
  | n+1,t=>V.dead::zd n t
def zo:Nat→List (Option Ve.Obj)→List (Option Ve.Obj)
  | 0,t=>t
  | n+1,t=>none::zo n t
abbrev n_Z83:Nat:=5
abbrev n_Z22:Nat:=9
abbrev n_Z17:Nat:=12
abbrev n_Z85:Nat:=15
abbrev n_Z119:Nat:=16
abbrev n_Z31:Nat:=17
abbrev n_Z9:Nat:=18
abbrev n_Z121:Nat:=19
abbrev n_Z23:Nat:=20
abbrev n_Z84:Nat:=21
abbrev n_Z122:Nat:=22
abbrev n_Z18:Nat:=23
abbrev n_Z118:Nat:=24
abbrev n_Z120:Nat:=25
abbrev n_Z116:Nat:=26
abbrev n_Z20:Nat:=27
abbrev n_Z28:Nat:=36
abbrev n_Z7:Nat:=37
abbrev n_Z8:Nat:=38
abbrev n_Z10:Nat:=39
abbrev n_Z172:Nat:=40
abbrev n_Z173:Nat:=45
abbrev n_Z14:Nat:=46
abbrev n_Z15:Nat:=47
abbrev n_Z16:Nat:=48
abbrev n_Z36:Nat:=49
abbrev n_Z124:Nat:=56
abbrev n_Z166:Nat:=57
abbrev n_Z82:Nat:=58
abbrev n_Z170:Nat:=59
abbrev n_Z55:Nat:=60
abbrev n_Z75:Nat:=61
abbrev n_Z149:Nat:=62
abbrev n_Z162:Nat:=63
abbrev n_Z59:Nat:=64
abbrev n_Z57:Nat:=65
abbrev n_Z66:Nat:=66
abbrev n_Z136:Nat:=67
abbrev n_Z146:Nat:=68
abbrev n_Z145:Nat:=69
abbrev n_Z154:Nat:=70
abbrev n_Z26:Nat:=71
abbrev n_Z81:Nat:=72
abbrev n_Z74:Nat:=73
abbrev n_Z44:Nat:=74
abbrev n_Z69:Nat:=75
abbrev n_Z42:Nat:=76
abbrev n_Z70:Nat:=77
abbrev n_Z21:Nat:=78
abbrev n_Z156:Nat:=81
abbrev n_Z123:Nat:=82
abbrev n_Z169:Nat:=86
abbrev n_Z24:Nat:=92
abbrev n_Z27:Nat:=93
abbrev n_Z34:Nat:=94
abbrev n_Z54:Nat:=95
abbrev n_Z46:Nat:=96
abbrev n_Z171:Nat:=97
abbrev n_Z95:Nat:=98
abbrev n_Z11:Nat:=99
abbrev n_Z62:Nat:=100
abbrev n_Z168:Nat:=110
abbrev n_Z137:Nat:=111
abbrev n_Z5:Nat:=113
abbrev n_Z73:Nat:=116
abbrev n_Z165:Nat:=119
abbrev n_Z131:Nat:=120
abbrev n_Z134:Nat:=121
abbrev n_Z164:Nat:=122
abbrev n_Z163:Nat:=123
abbrev n_Z161:Nat:=124
abbrev n_Z138:Nat:=125
abbrev n_Z64:Nat:=126
abbrev n_Z19:Nat:=127
abbrev n_Z159:Nat:=128
abbrev n_Z130:Nat:=129
abbrev n_Z72:Nat:=130
abbrev n_Z126:Nat:=131
abbrev n_Z157:Nat:=132
abbrev n_Z58:Nat:=133
abbrev n_Z101:Nat:=134
abbrev n_Z79:Nat:=135
abbrev n_Z107:Nat:=136
abbrev n_Z67:Nat:=137
abbrev n_Z142:Nat:=138
abbrev n_Z148:Nat:=139
abbrev n_Z155:Nat:=140
abbrev n_Z153:Nat:=141
abbrev n_Z61:Nat:=142
abbrev n_Z32:Nat:=143
abbrev n_Z45:Nat:=144
abbrev n_Z53:Nat:=145
abbrev n_Z51:Nat:=146
abbrev n_Z52:Nat:=147
abbrev n_Z88:Nat:=148
abbrev n_Z41:Nat:=149
abbrev n_Z160:Nat:=150
abbrev n_Z150:Nat:=151
abbrev n_Z135:Nat:=152
abbrev n_Z29:Nat:=155
abbrev n_Z39:Nat:=156
abbrev n_Z92:Nat:=157
abbrev n_Z25:Nat:=158
abbrev n_Z35:Nat:=159
abbrev n_Z76:Nat:=160
abbrev n_Z127:Nat:=166
abbrev n_Z6:Nat:=170
abbrev n_Z37:Nat:=171
abbrev n_Z151:Nat:=175
abbrev n_Z152:Nat:=176
abbrev n_Z132:Nat:=177
abbrev n_Z147:Nat:=178
abbrev n_Z167:Nat:=179
abbrev n_Z117:Nat:=180
abbrev n_Z133:Nat:=181
abbrev n_Z38:Nat:=182
abbrev n_Z47:Nat:=183
abbrev n_Z65:Nat:=184
abbrev n_Z43:Nat:=185
abbrev n_Z13:Nat:=186
abbrev n_Z102:Nat:=187
abbrev n_Z125:Nat:=188
abbrev n_Z114:Nat:=189
abbrev n_Z80:Nat:=190
abbrev n_Z33:Nat:=191
abbrev n_Z56:Nat:=192
abbrev n_Z91:Nat:=193
abbrev n_Z86:Nat:=194
abbrev n_Z40:Nat:=195
abbrev n_Z115:Nat:=196
abbrev n_Z89:Nat:=197
abbrev n_Z129:Nat:=198
abbrev n_Z60:Nat:=200
abbrev n_Z30:Nat:=201
abbrev n_Z63:Nat:=202
abbrev n_Z2:Nat:=203
abbrev n_Z0:Nat:=204
abbrev n_Z90:Nat:=205
abbrev n_Z104:Nat:=206
abbrev n_Z158:Nat:=223
abbrev n_Z128:Nat:=224
abbrev n_Z143:Nat:=225
abbrev n_Z140:Nat:=226
abbrev n_Z144:Nat:=227
abbrev n_Z68:Nat:=228
abbrev n_Z77:Nat:=229
abbrev n_Z103:Nat:=230
abbrev n_Z3:Nat:=233
abbrev n_Z1:Nat:=234
abbrev n_Z139:Nat:=250
abbrev n_Z141:Nat:=251
abbrev n_Z78:Nat:=252
abbrev n_Z12:Nat:=253
abbrev n_Z4:Nat:=263
abbrev F_Z83:Func:=Tryz.f5
abbrev F_Z22:Func:=Tryz.f9
abbrev F_Z17:Func:=Tryz.f12
abbrev F_Z85:Func:=Tryz.f15
abbrev F_Z119:Func:=Tryz.f16
abbrev F_Z31:Func:=Tryz.f17
abbrev F_Z9:Func:=Tryz.f18
abbrev F_Z121:Func:=Tryz.f19
abbrev F_Z23:Func:=Tryz.f20
abbrev F_Z84:Func:=Tryz.f21
abbrev F_Z122:Func:=Tryz.f22
abbrev F_Z18:Func:=Tryz.f23
abbrev F_Z118:Func:=Tryz.f24
abbrev F_Z120:Func:=Tryz.f25
abbrev F_Z116:Func:=Tryz.f26
abbrev F_Z20:Func:=Tryz.f27
abbrev F_Z28:Func:=Tryz.f36
abbrev F_Z7:Func:=Tryz.f37
abbrev F_Z8:Func:=Tryz.f38
abbrev F_Z10:Func:=Tryz.f39
abbrev F_Z172:Func:=Tryz.f40
abbrev F_Z173:Func:=Tryz.f45
abbrev F_Z14:Func:=Tryz.f46
abbrev F_Z15:Func:=Tryz.f47
abbrev F_Z16:Func:=Tryz.f48
abbrev F_Z36:Func:=Tryz.f49
abbrev F_Z124:Func:=Tryz.f56
abbrev F_Z166:Func:=Tryz.f57
abbrev F_Z82:Func:=Tryz.f58
abbrev F_Z170:Func:=Tryz.f59
abbrev F_Z55:Func:=Tryz.f60
abbrev F_Z75:Func:=Tryz.f61
abbrev F_Z149:Func:=Tryz.f62
abbrev F_Z162:Func:=Tryz.f63
abbrev F_Z59:Func:=Tryz.f64
abbrev F_Z57:Func:=Tryz.f65
abbrev F_Z66:Func:=Tryz.f66
abbrev F_Z136:Func:=Tryz.f67
abbrev F_Z146:Func:=Tryz.f68
abbrev F_Z145:Func:=Tryz.f69
abbrev F_Z154:Func:=Tryz.f70
abbrev F_Z26:Func:=Tryz.f71
abbrev F_Z81:Func:=Tryz.f72
abbrev F_Z74:Func:=Tryz.f73
abbrev F_Z44:Func:=Tryz.f74
abbrev F_Z69:Func:=Tryz.f75
abbrev F_Z42:Func:=Tryz.f76
abbrev F_Z70:Func:=Tryz.f77
abbrev F_Z21:Func:=Tryz.f78
abbrev F_Z156:Func:=Tryz.f81
abbrev F_Z123:Func:=Tryz.f82
abbrev F_Z169:Func:=Tryz.f86
abbrev F_Z24:Func:=Tryz.f92
abbrev F_Z27:Func:=Tryz.f93
abbrev F_Z34:Func:=Tryz.f94
abbrev F_Z54:Func:=Tryz.f95
abbrev F_Z46:Func:=Tryz.f96
abbrev F_Z171:Func:=Tryz.f97
abbrev F_Z95:Func:=Tryz.f98
abbrev F_Z11:Func:=Tryz.f99
abbrev F_Z62:Func:=Tryz.f100
abbrev F_Z168:Func:=Tryz.f110
abbrev F_Z137:Func:=Tryz.f111
abbrev F_Z5:Func:=Tryz.f113
abbrev F_Z73:Func:=Tryz.f116
abbrev F_Z165:Func:=Tryz.f119
abbrev F_Z131:Func:=Tryz.f120
abbrev F_Z134:Func:=Tryz.f121
abbrev F_Z164:Func:=Tryz.f122
abbrev F_Z163:Func:=Tryz.f123
abbrev F_Z161:Func:=Tryz.f124
abbrev F_Z138:Func:=Tryz.f125
abbrev F_Z64:Func:=Tryz.f126
abbrev F_Z19:Func:=Tryz.f127
abbrev F_Z159:Func:=Tryz.f128
abbrev F_Z130:Func:=Tryz.f129
abbrev F_Z72:Func:=Tryz.f130
abbrev F_Z126:Func:=Tryz.f131
abbrev F_Z157:Func:=Tryz.f132
abbrev F_Z58:Func:=Tryz.f133
abbrev F_Z101:Func:=Tryz.f134
abbrev F_Z79:Func:=Tryz.f135
abbrev F_Z107:Func:=Tryz.f136
abbrev F_Z67:Func:=Tryz.f137
abbrev F_Z142:Func:=Tryz.f138
abbrev F_Z148:Func:=Tryz.f139
abbrev F_Z155:Func:=Tryz.f140
abbrev F_Z153:Func:=Tryz.f141
abbrev F_Z61:Func:=Tryz.f142
abbrev F_Z32:Func:=Tryz.f143
abbrev F_Z45:Func:=Tryz.f144
abbrev F_Z53:Func:=Tryz.f145
abbrev F_Z51:Func:=Tryz.f146
abbrev F_Z52:Func:=Tryz.f147
abbrev F_Z88:Func:=Tryz.f148
abbrev F_Z41:Func:=Tryz.f149
abbrev F_Z160:Func:=Tryz.f150
abbrev F_Z150:Func:=Tryz.f151
abbrev F_Z135:Func:=Tryz.f152
abbrev F_Z29:Func:=Tryz.f155
abbrev F_Z39:Func:=Tryz.f156
abbrev F_Z92:Func:=Tryz.f157
abbrev F_Z25:Func:=Tryz.f158
abbrev F_Z35:Func:=Tryz.f159
abbrev F_Z76:Func:=Tryz.f160
abbrev F_Z127:Func:=Tryz.f166
abbrev F_Z6:Func:=Tryz.f170
abbrev F_Z37:Func:=Tryz.f171
abbrev F_Z151:Func:=Tryz.f175
abbrev F_Z152:Func:=Tryz.f176
abbrev F_Z132:Func:=Tryz.f177
abbrev F_Z147:Func:=Tryz.f178
abbrev F_Z167:Func:=Tryz.f179
abbrev F_Z117:Func:=Tryz.f180
abbrev F_Z133:Func:=Tryz.f181
abbrev F_Z38:Func:=Tryz.f182
abbrev F_Z47:Func:=Tryz.f183
abbrev F_Z65:Func:=Tryz.f184
abbrev F_Z43:Func:=Tryz.f185
abbrev F_Z13:Func:=Tryz.f186
abbrev F_Z102:Func:=Tryz.f187
abbrev F_Z125:Func:=Tryz.f188
abbrev F_Z114:Func:=Tryz.f189
abbrev F_Z80:Func:=Tryz.f190
abbrev F_Z33:Func:=Tryz.f191
abbrev F_Z56:Func:=Tryz.f192
abbrev F_Z91:Func:=Tryz.f193
abbrev F_Z86:Func:=Tryz.f194
abbrev F_Z40:Func:=Tryz.f195
abbrev F_Z115:Func:=Tryz.f196
abbrev F_Z89:Func:=Tryz.f197
abbrev F_Z129:Func:=Tryz.f198
abbrev F_Z60:Func:=Tryz.f200
abbrev F_Z30:Func:=Tryz.f201
abbrev F_Z63:Func:=Tryz.f202
abbrev F_Z2:Func:=Tryz.f203
abbrev F_Z0:Func:=Tryz.f204
abbrev F_Z90:Func:=Tryz.f205
abbrev F_Z104:Func:=Tryz.f206
abbrev F_Z158:Func:=Tryz.f223
abbrev F_Z128:Func:=Tryz.f224
abbrev F_Z143:Func:=Tryz.f225
abbrev F_Z140:Func:=Tryz.f226
abbrev F_Z144:Func:=Tryz.f227
abbrev F_Z68:Func:=Tryz.f228
abbrev F_Z77:Func:=Tryz.f229
abbrev F_Z103:Func:=Tryz.f230
abbrev F_Z3:Func:=Tryz.f233
abbrev F_Z1:Func:=Tryz.f234
abbrev F_Z139:Func:=Tryz.f250
abbrev F_Z141:Func:=Tryz.f251
abbrev F_Z78:Func:=Tryz.f252
abbrev F_Z12:Func:=Tryz.f253
abbrev F_Z4:Func:=Tryz.f263
abbrev o_Z83:Ty:=(.cons .bool .nil)
def sg_Z83:Sig:=⟨[(false,1),(false,1)],[],o_Z83,[(false,1)],[],[.str]⟩
abbrev o_Z22:Ty:=(.cons .str .nil)
def sg_Z22:Sig:=⟨[(true,4)],[],o_Z22,[(false,1)],[],[.str]⟩
abbrev o_Z17:Ty:=(.cons yK (.cons yI (.cons yL (.cons yN (.cons .bool .nil)))))
def sg_Z17:Sig:=⟨[(false,1)],[],o_Z17,[(true,4),(false,1)],[.deep,.imm,.deep,.deep,.imm],[.str]⟩
abbrev o_Z85:Ty:=(.cons .bool .nil)
def sg_Z85:Sig:=⟨[(false,1),(false,1)],[],o_Z85,[(false,1)],[],[]⟩
abbrev o_Z119:Ty:=yS
def sg_Z119:Sig:=⟨[(false,1)],[],o_Z119,[(true,4)],[.deep,.imm,.deep,.own],[]⟩
abbrev o_Z31:Ty:=(.cons yI (.cons yI (.cons yI .nil)))
def sg_Z31:Sig:=⟨[(true,4)],[],o_Z31,[(false,1),(false,1),(false,1)],[],[]⟩
abbrev o_Z9:Ty:=(.cons .bool .nil)
def sg_Z9:Sig:=⟨[(true,4)],[],o_Z9,[(false,1)],[],[]⟩
abbrev o_Z121:Ty:=(.cons .bool .nil)
def sg_Z121:Sig:=⟨[(true,4),(true,4)],[],o_Z121,[(false,1)],[],[]⟩
abbrev o_Z23:Ty:=(.cons yI (.cons yI .nil))
def sg_Z23:Sig:=⟨[(true,4),(false,1)],[],o_Z23,[(false,1),(false,1)],[],[]⟩
abbrev o_Z84:Ty:=(.cons yI .nil)
def sg_Z84:Sig:=⟨[(false,1),(false,1),(false,1)],[],o_Z84,[(false,1)],[],[]⟩
abbrev o_Z122:Ty:=(.cons yL (.cons yI .nil))
def sg_Z122:Sig:=⟨[(true,1),(false,1)],[],o_Z122,[(false,1),(false,1)],[.deep,.imm],[]⟩
abbrev o_Z18:Ty:=(.cons yI (.cons yI (.cons yI (.cons yL (.cons yI .nil)))))
def sg_Z18:Sig:=⟨[(true,4),(false,1),(false,1)],[],o_Z18,[(true,4),(false,1)],[.imm,.imm,.imm,.deep,.imm],[]⟩
abbrev o_Z118:Ty:=(.cons yI (.cons yI (.cons yI (.cons yL (.cons yI .nil)))))
def sg_Z118:Sig:=⟨[(true,4),(true,4)],[],o_Z118,[(true,4),(false,1)],[.imm,.imm,.imm,.deep,.imm],[]⟩
abbrev o_Z120:Ty:=(.cons .bool .nil)
def sg_Z120:Sig:=⟨[(true,4),(true,4)],[],o_Z120,[(false,1)],[],[]⟩
abbrev o_Z116:Ty:=(.cons yL (.cons yI .nil))
def sg_Z116:Sig:=⟨[(true,1),(false,1)],[],o_Z116,[(false,1),(false,1)],[.deep,.imm],[]⟩
abbrev o_Z20:Ty:=(.cons yK (.cons yI (.cons yL (.cons yN (.cons yI .nil)))))
def sg_Z20:Sig:=⟨[(true,4),(false,1),(false,1),(true,4)],[],o_Z20,[(true,4),(false,1)],[.deep,.imm,.deep,.deep,.imm],[]⟩
abbrev o_Z28:Ty:=(.cons .bool .nil)
def sg_Z28:Sig:=⟨[(true,4)],[],o_Z28,[(false,1)],[],[]⟩
abbrev o_Z7:Ty:=(.cons .str .nil)
def sg_Z7:Sig:=⟨[(true,1)],[],o_Z7,[(false,1)],[],[.str]⟩
abbrev o_Z8:Ty:=(.cons .str .nil)
def sg_Z8:Sig:=⟨[(false,1)],[],o_Z8,[(false,1)],[],[]⟩
abbrev o_Z10:Ty:=(.cons .str .nil)
def sg_Z10:Sig:=⟨[(false,1)],[],o_Z10,[(false,1)],[],[.str]⟩
abbrev o_Z172:Ty:=(.cons .str .nil)
def sg_Z172:Sig:=⟨[(false,1),(false,1)],[],o_Z172,[(false,1)],[],[.str]⟩
abbrev o_Z173:Ty:=(.cons (.sl .str) .nil)
def sg_Z173:Sig:=⟨[(false,1),(false,1)],[],o_Z173,[(false,1)],[.deep],[]⟩
abbrev o_Z14:Ty:=(.cons yK (.cons .bool .nil))
def sg_Z14:Sig:=⟨[(false,1)],[],o_Z14,[(true,1),(false,1)],[.deep,.imm],[.str]⟩
abbrev o_Z15:Ty:=(.cons yI (.cons .bool .nil))
def sg_Z15:Sig:=⟨[(false,1)],[],o_Z15,[(false,1),(false,1)],[],[.str]⟩
abbrev o_Z16:Ty:=(.cons yL (.cons .bool .nil))
def sg_Z16:Sig:=⟨[(false,1)],[],o_Z16,[(false,1),(false,1)],[.deep,.imm],[.str]⟩
abbrev o_Z36:Ty:=(.cons (.sl (.st (.cons yI (.cons yI (.cons yI .nil))))) .nil)
def sg_Z36:Sig:=⟨[(true,1)],[],o_Z36,[(false,1)],[.deep],[]⟩
abbrev o_Z124:Ty:=(.cons (.ptr yR) .nil)
def sg_Z124:Sig:=⟨[(false,1)],[],o_Z124,[(false,1)],[.bx],[]⟩
abbrev o_Z166:Ty:=(.cons yK (.cons yI (.cons yL (.cons yN (.cons (.ptr yR) .nil)))))
def sg_Z166:Sig:=⟨[(false,1)],[.iob],o_Z166,[(true,4)],[.deep,.imm,.deep,.own],[(.ptr yR)]⟩
abbrev o_Z82:Ty:=(.cons yI (.cons yI (.cons .bool .nil)))
def sg_Z82:Sig:=⟨[(true,4)],[],o_Z82,[(false,1),(false,1),(false,1)],[],[]⟩
abbrev o_Z170:Ty:=(.cons .bool .nil)
def sg_Z170:Sig:=⟨[(false,1),(false,1)],[],o_Z170,[(false,1)],[],[(.ptr yS),(.ptr yS)]⟩
abbrev o_Z55:Ty:=(.cons .bool .nil)
def sg_Z55:Sig:=⟨[(false,1)],[],o_Z55,[(false,1)],[],[]⟩
abbrev o_Z75:Ty:=(.cons yI .nil)
def sg_Z75:Sig:=⟨[(true,4),(false,1)],[],o_Z75,[(false,1)],[],[]⟩
abbrev o_Z149:Ty:=(.cons yI .nil)
def sg_Z149:Sig:=⟨[(false,1),(false,1)],[],o_Z149,[(false,1)],[],[(.ptr yC)]⟩
abbrev o_Z162:Ty:=(.cons yL .nil)
def sg_Z162:Sig:=⟨[(false,1),(false,1)],[],o_Z162,[(false,1)],[.deep],[(.ptr yC)]⟩
abbrev o_Z59:Ty:=(.cons .bool .nil)
def sg_Z59:Sig:=⟨[(true,4),(false,1)],[],o_Z59,[(false,1)],[],[]⟩
abbrev o_Z57:Ty:=(.cons .bool .nil)
def sg_Z57:Sig:=⟨[(false,1),(false,1)],[],o_Z57,[(false,1)],[],[]⟩
abbrev o_Z66:Ty:=yM
def sg_Z66:Sig:=⟨[(true,4),(false,1),(false,1)],[],o_Z66,[(true,4)],[.imm,.imm,.imm,.deep],[]⟩
abbrev o_Z136:Ty:=(.cons .bool .nil)
def sg_Z136:Sig:=⟨[(false,1),(false,1)],[],o_Z136,[(false,1)],[],[(.ptr yM),(.ptr yM)]⟩
abbrev o_Z146:Ty:=yM
def sg_Z146:Sig:=⟨[(false,1),(false,1)],[],o_Z146,[(true,4)],[.imm,.imm,.imm,.deep],[(.ptr yM),(.ptr yM)]⟩
abbrev o_Z145:Ty:=(.cons .bool .nil)
def sg_Z145:Sig:=⟨[(false,1),(false,1)],[],o_Z145,[(false,1)],[],[(.ptr yM),(.ptr yM)]⟩
abbrev o_Z154:Ty:=(.cons yL .nil)
def sg_Z154:Sig:=⟨[(false,1),(false,1)],[],o_Z154,[(false,1)],[.deep],[(.ptr yC)]⟩
abbrev o_Z26:Ty:=(.cons .bool .nil)
def sg_Z26:Sig:=⟨[(true,4)],[],o_Z26,[(false,1)],[],[]⟩
abbrev o_Z81:Ty:=(.cons .bool .nil)
def sg_Z81:Sig:=⟨[(false,1),(false,1),(false,1)],[],o_Z81,[(false,1)],[],[]⟩
abbrev o_Z74:Ty:=(.cons yI .nil)
def sg_Z74:Sig:=⟨[(false,1)],[],o_Z74,[(false,1)],[],[]⟩
abbrev o_Z44:Ty:=(.cons yL .nil)
def sg_Z44:Sig:=⟨[(true,1),(false,1)],[],o_Z44,[(false,1)],[.deep],[]⟩
abbrev o_Z69:Ty:=(.cons .bool .nil)
def sg_Z69:Sig:=⟨[(true,4),(true,4)],[],o_Z69,[(false,1)],[],[]⟩
abbrev o_Z42:Ty:=yM
def sg_Z42:Sig:=⟨[(true,4),(false,1),(false,1)],[],o_Z42,[(true,4)],[],[]⟩
abbrev o_Z70:Ty:=yS
def sg_Z70:Sig:=⟨[(true,1),(false,1),(false,1),(false,1)],[],o_Z70,[(true,4)],[.deep,.imm,.deep,.deep],[]⟩
abbrev o_Z21:Ty:=yM
def sg_Z21:Sig:=⟨[(true,3),(false,1),(false,1),(false,1),(false,1)],[],o_Z21,[(true,4)],[],[.nil,.nil,.nil,(.ptr (.cons yI .nil)),(.ptr (.cons yI .nil)),(.ptr yM),(.ptr yS)]⟩
abbrev o_Z156:Ty:=(.cons .bool .nil)
def sg_Z156:Sig:=⟨[(false,1)],[],o_Z156,[(false,1)],[],[(.ptr yC)]⟩
abbrev o_Z123:Ty:=(.cons .bool .nil)
def sg_Z123:Sig:=⟨[(false,1)],[],o_Z123,[(false,1)],[],[]⟩
abbrev o_Z169:Ty:=(.cons yI .nil)
def sg_Z169:Sig:=⟨[(false,1),(false,1),(false,1)],[],o_Z169,[(false,1)],[],[(.ptr yC)]⟩
abbrev o_Z24:Ty:=(.cons .bool .nil)
def sg_Z24:Sig:=⟨[(true,1)],[],o_Z24,[(false,1)],[],[]⟩
abbrev o_Z27:Ty:=(.cons .bool .nil)
def sg_Z27:Sig:=⟨[(false,1)],[],o_Z27,[(false,1)],[],[]⟩
abbrev o_Z34:Ty:=(.cons .bool .nil)
def sg_Z34:Sig:=⟨[(true,1),(false,1)],[],o_Z34,[(false,1)],[],[]⟩
abbrev o_Z54:Ty:=(.cons .bool .nil)
def sg_Z54:Sig:=⟨[(true,4),(false,1),(false,1),(false,1)],[],o_Z54,[(false,1)],[],[]⟩
abbrev o_Z46:Ty:=(.cons yL .nil)
def sg_Z46:Sig:=⟨[(true,1)],[],o_Z46,[(false,1)],[.deep],[]⟩
abbrev o_Z171:Ty:=(.cons .str .nil)
def sg_Z171:Sig:=⟨[(false,1),(false,1)],[],o_Z171,[(false,1)],[],[]⟩
abbrev o_Z95:Ty:=(.cons .bool .nil)
def sg_Z95:Sig:=⟨[(false,1),(false,1)],[],o_Z95,[(false,1)],[],[]⟩
abbrev o_Z11:Ty:=(.cons .bool .nil)
def sg_Z11:Sig:=⟨[(false,1)],[],o_Z11,[(false,1)],[],[]⟩
abbrev o_Z62:Ty:=(.cons .bool .nil)
def sg_Z62:Sig:=⟨[(false,1)],[],o_Z62,[(false,1)],[],[]⟩
abbrev o_Z168:Ty:=yS
def sg_Z168:Sig:=⟨[(false,1),(false,1),(false,1)],[],o_Z168,[(true,4)],[.deep,.imm,.deep,.deep],[(.ptr yC)]⟩
abbrev o_Z137:Ty:=(.cons .bool .nil)
def sg_Z137:Sig:=⟨[(false,1),(false,1),(false,1)],[],o_Z137,[(false,1)],[],[]⟩
abbrev o_Z5:Ty:=(.cons yK (.cons yI .nil))
def sg_Z5:Sig:=⟨[(false,1)],[],o_Z5,[(true,1),(false,1)],[.deep,.imm],[]⟩
abbrev o_Z73:Ty:=(.cons yI .nil)
def sg_Z73:Sig:=⟨[(false,1)],[],o_Z73,[(false,1)],[],[]⟩
abbrev o_Z165:Ty:=(.cons yK (.cons (.ptr yR) .nil))
def sg_Z165:Sig:=⟨[(false,1)],[.iob],o_Z165,[(true,1)],[.own],[(.ptr yR)]⟩
abbrev o_Z131:Ty:=(.cons yI (.cons (.ptr yR) .nil))
def sg_Z131:Sig:=⟨[(false,1),(false,1)],[.iob,.imm],o_Z131,[(false,1)],[],[(.ptr yR)]⟩
abbrev o_Z134:Ty:=(.cons yI (.cons (.ptr yR) .nil))
def sg_Z134:Sig:=⟨[(false,1),(false,1)],[.iob,.imm],o_Z134,[(false,1)],[],[(.ptr yR)]⟩
abbrev o_Z164:Ty:=yS
def sg_Z164:Sig:=⟨[(false,1),(false,1),(false,1)],[],o_Z164,[(true,4)],[.deep,.imm,.deep,.deep],[(.ptr yC)]⟩
abbrev o_Z163:Ty:=(.cons yK (.cons yI (.cons yL (.cons yN (.cons (.ptr yR) .nil)))))
def sg_Z163:Sig:=⟨[(false,1),(false,1),(false,1),(false,1)],[.iob,.imm,.imm,.imm],o_Z163,[(true,4)],[.deep,.imm,.deep,.deep],[(.ptr yR),(.ptr yC)]⟩
abbrev o_Z161:Ty:=yC
def sg_Z161:Sig:=⟨[(false,1),(false,1)],[],o_Z161,[(true,1)],[.deep],[(.ptr yC)]⟩
abbrev o_Z138:Ty:=(.cons yI (.cons yI (.cons yI (.cons yL (.cons (.ptr yR) .nil)))))
def sg_Z138:Sig:=⟨[(false,1),(false,1),(false,1),(false,1)],[.iob,.imm,.imm,.imm],o_Z138,[(true,4)],[.imm,.imm,.imm,.deep],[(.ptr yR)]⟩
abbrev o_Z64:Ty:=yM
def sg_Z64:Sig:=⟨[(true,4),(true,4)],[],o_Z64,[(true,4)],[.imm,.imm,.imm,.deep],[]⟩
abbrev o_Z19:Ty:=(.cons .bool .nil)
def sg_Z19:Sig:=⟨[(true,4),(true,4)],[],o_Z19,[(false,1)],[],[]⟩
abbrev o_Z159:Ty:=(.cons .bool .nil)
def sg_Z159:Sig:=⟨[(false,1),(false,1)],[],o_Z159,[(false,1)],[],[(.ptr yC),(.ptr yC)]⟩
abbrev o_Z130:Ty:=(.cons .bool .nil)
def sg_Z130:Sig:=⟨[(false,1),(false,1)],[],o_Z130,[(false,1)],[],[]⟩
abbrev o_Z72:Ty:=(.cons yL .nil)
def sg_Z72:Sig:=⟨[(true,1),(false,1)],[],o_Z72,[(false,1)],[.deep],[]⟩
abbrev o_Z126:Ty:=(.cons .bool .nil)
def sg_Z126:Sig:=⟨[(false,1),(false,1),(false,1)],[],o_Z126,[(false,1)],[],[]⟩
abbrev o_Z157:Ty:=(.cons .bool .nil)
def sg_Z157:Sig:=⟨[(false,1),(false,1)],[],o_Z157,[(false,1)],[],[]⟩
abbrev o_Z58:Ty:=(.cons .bool .nil)
def sg_Z58:Sig:=⟨[(false,1),(false,1)],[],o_Z58,[(false,1)],[],[.nil,(.ptr (.cons yL .nil))]⟩
abbrev o_Z101:Ty:=(.cons .bool .nil)
def sg_Z101:Sig:=⟨[(false,1),(false,1)],[],o_Z101,[(false,1)],[],[]⟩
abbrev o_Z79:Ty:=yM
def sg_Z79:Sig:=⟨[(false,1),(false,1)],[],o_Z79,[(true,4)],[.imm,.imm,.imm,.deep],[]⟩
abbrev o_Z107:Ty:=(.cons yI .nil)
def sg_Z107:Sig:=⟨[(false,1),(false,1)],[],o_Z107,[(false,1)],[],[]⟩
abbrev o_Z67:Ty:=(.cons .bool .nil)
def sg_Z67:Sig:=⟨[(false,1),(false,1)],[],o_Z67,[(false,1)],[],[.nil,(.ptr (.cons yL .nil))]⟩
abbrev o_Z142:Ty:=(.cons .bool .nil)
def sg_Z142:Sig:=⟨[(false,1)],[],o_Z142,[(false,1)],[],[(.ptr yM)]⟩
abbrev o_Z148:Ty:=yM
def sg_Z148:Sig:=⟨[(false,1),(false,1),(false,1)],[],o_Z148,[(true,4)],[.imm,.imm,.imm,.deep],[]⟩
abbrev o_Z155:Ty:=(.cons yI .nil)
def sg_Z155:Sig:=⟨[(false,1),(false,1)],[],o_Z155,[(false,1)],[],[(.ptr yC)]⟩
abbrev o_Z153:Ty:=(.cons yL .nil)
def sg_Z153:Sig:=⟨[(false,1),(false,1)],[],o_Z153,[(false,1)],[.deep],[]⟩
abbrev o_Z61:Ty:=(.cons .bool .nil)
def sg_Z61:Sig:=⟨[(false,1)],[],o_Z61,[(false,1)],[],[]⟩
abbrev o_Z32:Ty:=(.cons .bool .nil)
def sg_Z32:Sig:=⟨[(false,1),(false,1)],[],o_Z32,[(false,1)],[],[]⟩
abbrev o_Z45:Ty:=yC
def sg_Z45:Sig:=⟨[(false,1)],[],o_Z45,[(false,1)],[.deep],[]⟩
abbrev o_Z53:Ty:=(.cons yI .nil)
def sg_Z53:Sig:=⟨[(true,1),(false,1)],[],o_Z53,[(false,1)],[],[]⟩
abbrev o_Z51:Ty:=(.cons yI .nil)
def sg_Z51:Sig:=⟨[(true,4),(false,1)],[],o_Z51,[(false,1)],[],[]⟩
abbrev o_Z52:Ty:=yC
def sg_Z52:Sig:=⟨[(false,1)],[],o_Z52,[(true,1)],[.deep],[]⟩
abbrev o_Z88:Ty:=(.cons yL .nil)
def sg_Z88:Sig:=⟨[(false,1)],[],o_Z88,[(false,1)],[.deep],[]⟩
abbrev o_Z41:Ty:=yM
def sg_Z41:Sig:=⟨[(true,4)],[],o_Z41,[(true,4)],[.imm,.imm,.imm,.deep],[]⟩
abbrev o_Z160:Ty:=(.cons .bool .nil)
def sg_Z160:Sig:=⟨[(false,1)],[],o_Z160,[(false,1)],[],[]⟩
abbrev o_Z150:Ty:=(.cons .bool .nil)
def sg_Z150:Sig:=⟨[(false,1),(false,1)],[],o_Z150,[(false,1)],[],[]⟩
abbrev o_Z135:Ty:=(.cons .bool .nil)
def sg_Z135:Sig:=⟨[(false,1)],[],o_Z135,[(false,1)],[],[]⟩
abbrev o_Z29:Ty:=(.cons .bool .nil)
def sg_Z29:Sig:=⟨[(false,1)],[],o_Z29,[(false,1)],[],[]⟩
abbrev o_Z39:Ty:=(.cons yI .nil)
def sg_Z39:Sig:=⟨[(false,1),(false,1)],[],o_Z39,[(false,1)],[],[]⟩
abbrev o_Z92:Ty:=(.cons .bool .nil)
def sg_Z92:Sig:=⟨[(false,1),(false,1)],[],o_Z92,[(false,1)],[],[]⟩
abbrev o_Z25:Ty:=(.cons .bool .nil)
def sg_Z25:Sig:=⟨[(false,1),(false,1),(false,1)],[],o_Z25,[(false,1)],[],[.nil,(.ptr yC),(.ptr (.cons yI .nil))]⟩
abbrev o_Z35:Ty:=(.cons .bool .nil)
def sg_Z35:Sig:=⟨[(false,1)],[],o_Z35,[(false,1)],[],[]⟩
abbrev o_Z76:Ty:=(.cons yL .nil)
def sg_Z76:Sig:=⟨[(true,1),(false,1)],[],o_Z76,[(false,1)],[.deep],[]⟩
abbrev o_Z127:Ty:=(.cons yL .nil)
def sg_Z127:Sig:=⟨[(false,1)],[],o_Z127,[(false,1)],[.deep],[]⟩
abbrev o_Z6:Ty:=(.cons .bool .nil)
def sg_Z6:Sig:=⟨[(false,1)],[],o_Z6,[(false,1)],[],[]⟩
abbrev o_Z37:Ty:=yC
def sg_Z37:Sig:=⟨[(false,1)],[],o_Z37,[(true,1)],[.deep],[]⟩
abbrev o_Z151:Ty:=yC
def sg_Z151:Sig:=⟨[(false,1)],[],o_Z151,[(true,1)],[.own],[]⟩
abbrev o_Z152:Ty:=(.cons yL (.cons (.ptr yR) .nil))
def sg_Z152:Sig:=⟨[(false,1),(false,1),(false,1)],[.iob,.imm,.imm],o_Z152,[(false,1)],[],[(.ptr yR)]⟩
abbrev o_Z132:Ty:=(.cons yI (.cons (.ptr yR) .nil))
def sg_Z132:Sig:=⟨[(false,1)],[.iob],o_Z132,[(false,1)],[],[(.ptr yR)]⟩
abbrev o_Z147:Ty:=yM
def sg_Z147:Sig:=⟨[(false,1),(false,1)],[],o_Z147,[(true,4)],[.imm,.imm,.imm,.deep],[]⟩
abbrev o_Z167:Ty:=(.cons yI (.cons yI (.cons yI (.cons yL (.cons (.ptr yR) .nil)))))
def sg_Z167:Sig:=⟨[(false,1),(false,1),(false,1)],[.iob,.imm,.imm],o_Z167,[(true,4)],[.imm,.imm,.imm,.deep],[(.ptr yR)]⟩
abbrev o_Z117:Ty:=(.cons yI (.cons yI (.cons yI (.cons yL (.cons yI .nil)))))
def sg_Z117:Sig:=⟨[(true,4)],[],o_Z117,[(true,4),(false,1)],[.imm,.imm,.imm,.deep,.imm],[]⟩
abbrev o_Z133:Ty:=(.cons .bool (.cons (.ptr yR) .nil))
def sg_Z133:Sig:=⟨[(false,1),(false,1)],[.iob,.imm],o_Z133,[(false,1)],[],[(.ptr yR)]⟩
abbrev o_Z38:Ty:=yC
def sg_Z38:Sig:=⟨[(true,4)],[],o_Z38,[(false,1)],[.deep],[]⟩
abbrev o_Z47:Ty:=yM
def sg_Z47:Sig:=⟨[(false,1),(false,1),(false,1),(false,1)],[],o_Z47,[(true,4)],[.imm,.imm,.imm,.deep],[]⟩
abbrev o_Z65:Ty:=(.cons yI .nil)
def sg_Z65:Sig:=⟨[(false,1),(false,1),(false,1),(false,1)],[],o_Z65,[(false,1)],[],[.nil,.nil,(.ptr yM),(.ptr yC)]⟩
abbrev o_Z43:Ty:=(.cons yI .nil)
def sg_Z43:Sig:=⟨[(false,1),(false,1),(false,1)],[],o_Z43,[(false,1)],[],[]⟩
abbrev o_Z13:Ty:=(.cons yL .nil)
def sg_Z13:Sig:=⟨[(true,4),(false,1)],[],o_Z13,[(false,1)],[],[]⟩
abbrev o_Z102:Ty:=(.cons .bool .nil)
def sg_Z102:Sig:=⟨[(false,1),(false,1)],[],o_Z102,[(false,1)],[],[]⟩
abbrev o_Z125:Ty:=(.cons .bool .nil)
def sg_Z125:Sig:=⟨[(false,1),(false,1)],[],o_Z125,[(false,1)],[],[]⟩
abbrev o_Z114:Ty:=(.cons yI .nil)
def sg_Z114:Sig:=⟨[(false,1),(false,1)],[],o_Z114,[(false,1)],[],[]⟩
abbrev o_Z80:Ty:=(.cons yI .nil)
def sg_Z80:Sig:=⟨[(false,1),(false,1)],[],o_Z80,[(false,1)],[],[]⟩
abbrev o_Z33:Ty:=(.cons .bool .nil)
def sg_Z33:Sig:=⟨[(false,1),(false,1)],[],o_Z33,[(false,1)],[],[.nil,(.ptr (.cons yI .nil))]⟩
abbrev o_Z56:Ty:=(.cons .bool .nil)
def sg_Z56:Sig:=⟨[(false,1),(false,1)],[],o_Z56,[(false,1)],[],[]⟩
abbrev o_Z91:Ty:=(.cons yL .nil)
def sg_Z91:Sig:=⟨[(false,1)],[],o_Z91,[(false,1)],[.deep],[]⟩
abbrev o_Z86:Ty:=(.cons yI (.cons .bool .nil))
def sg_Z86:Sig:=⟨[(false,1),(false,1),(false,1)],[],o_Z86,[(false,1),(false,1)],[],[]⟩
abbrev o_Z40:Ty:=yC
def sg_Z40:Sig:=⟨[(false,1)],[],o_Z40,[(false,1)],[.deep],[]⟩
abbrev o_Z115:Ty:=yC
def sg_Z115:Sig:=⟨[(false,1),(false,1)],[.io true,.imm],o_Z115,[],[],[]⟩
abbrev o_Z89:Ty:=yC
def sg_Z89:Sig:=⟨[(false,1),(false,1)],[.take true,.imm],o_Z89,[(false,1)],[.deep],[]⟩
abbrev o_Z129:Ty:=(.cons .bool .nil)
def sg_Z129:Sig:=⟨[(false,1),(false,1),(false,1)],[],o_Z129,[(false,1)],[],[]⟩
abbrev o_Z60:Ty:=(.cons .bool .nil)
def sg_Z60:Sig:=⟨[(false,1)],[],o_Z60,[(false,1)],[],[]⟩
abbrev o_Z30:Ty:=(.cons .bool .nil)
def sg_Z30:Sig:=⟨[(false,1)],[],o_Z30,[(false,1)],[],[]⟩
abbrev o_Z63:Ty:=(.cons .bool .nil)
def sg_Z63:Sig:=⟨[(false,1)],[],o_Z63,[(false,1)],[],[]⟩
abbrev o_Z2:Ty:=(.cons yI .nil)
def sg_Z2:Sig:=⟨[(false,1)],[],o_Z2,[(false,1)],[],[]⟩
abbrev o_Z0:Ty:=(.cons yI .nil)
def sg_Z0:Sig:=⟨[(false,1),(false,1)],[],o_Z0,[(false,1)],[],[]⟩
abbrev o_Z90:Ty:=(.cons yI .nil)
def sg_Z90:Sig:=⟨[(false,1),(false,1)],[],o_Z90,[(false,1)],[],[]⟩
abbrev o_Z104:Ty:=(.cons yI .nil)
def sg_Z104:Sig:=⟨[(false,1),(false,1)],[],o_Z104,[(false,1)],[],[]⟩
abbrev o_Z158:Ty:=(.cons (.ptr yC) .nil)
def sg_Z158:Sig:=⟨[(false,1),(false,1)],[.iobo 0,.imm],o_Z158,[],[],[(.ptr yC)]⟩
abbrev o_Z128:Ty:=(.cons yL .nil)
def sg_Z128:Sig:=⟨[(false,1),(false,1)],[],o_Z128,[(false,1)],[.deep],[]⟩
abbrev o_Z143:Ty:=(.cons yI .nil)
def sg_Z143:Sig:=⟨[(false,1)],[],o_Z143,[(false,1)],[],[(.ptr yM)]⟩
abbrev o_Z140:Ty:=yM
def sg_Z140:Sig:=⟨[(false,1),(false,1)],[],o_Z140,[(true,4)],[.imm,.imm,.imm,.deep],[(.ptr yM),(.ptr yM)]⟩
abbrev o_Z144:Ty:=(.cons yI (.cons yI (.cons yI (.cons yL (.cons yL (.cons yI .nil))))))
def sg_Z144:Sig:=⟨[(false,1)],[],o_Z144,[(true,4),(false,1),(false,1)],[.imm,.imm,.imm,.deep,.deep,.imm],[(.ptr yM)]⟩
abbrev o_Z68:Ty:=yC
def sg_Z68:Sig:=⟨[(true,4)],[],o_Z68,[(false,1)],[.deep],[]⟩
abbrev o_Z77:Ty:=yM
def sg_Z77:Sig:=⟨[(true,4)],[],o_Z77,[(true,4)],[.imm,.imm,.imm,.deep],[]⟩
abbrev o_Z103:Ty:=(.cons yL .nil)
def sg_Z103:Sig:=⟨[(false,1),(false,1)],[.take true,.imm],o_Z103,[(false,1)],[.deep],[]⟩
abbrev o_Z3:Ty:=(.cons .bool .nil)
def sg_Z3:Sig:=⟨[(false,1)],[],o_Z3,[(false,1)],[],[]⟩
abbrev o_Z1:Ty:=(.cons yI .nil)
def sg_Z1:Sig:=⟨[(false,1),(false,1)],[],o_Z1,[(false,1)],[],[]⟩
abbrev o_Z139:Ty:=(.cons yI .nil)
def sg_Z139:Sig:=⟨[(false,1),(false,1)],[],o_Z139,[(false,1)],[],[]⟩
abbrev o_Z141:Ty:=(.cons yI .nil)
def sg_Z141:Sig:=⟨[(false,1),(false,1)],[],o_Z141,[(false,1)],[],[]⟩
abbrev o_Z78:Ty:=(.cons yI .nil)
def sg_Z78:Sig:=⟨[(false,1),(false,1),(false,1)],[],o_Z78,[(false,1)],[],[.nil,.nil,(.ptr yM)]⟩
abbrev o_Z12:Ty:=(.cons yI .nil)
def sg_Z12:Sig:=⟨[(true,4),(false,1),(false,1)],[],o_Z12,[(false,1)],[],[]⟩
abbrev o_Z4:Ty:=(.cons .bool .nil)
def sg_Z4:Sig:=⟨[(false,1)],[],o_Z4,[(false,1)],[],[]⟩
def pol_Z83:Pol:=⟨220,[],[(10,⟨[1,5,11,12],[5],[],[],[],[],[]⟩)],[],[(33,⟨[5,18,32,33,34],[5,33],[],[],[],[],[]⟩),(1000070,⟨[1,5,70],[5],[],[],[],[],[]⟩),(1000094,⟨[1,5,11,12,94],[5],[],[],[],[],[]⟩),(1000174,⟨[1,5,18,174],[5],[],[],[],[],[]⟩)],[(0,fun _=>none)]⟩
def pol_Z22:Pol:=⟨39,[],[(5,⟨[3,20,21,22],[18],[],[],[],[],[]⟩)],[],[],[(0,fun _=>none)]⟩
def pol_Z17:Pol:=⟨119,[(23,[some 117]),(40,[some 118]),(79,[some 116])],[(12,⟨[0,2,4,7,66,67,68],[2,7,101,117,118],[],[(7,3,101,(.st yM),true)],[],[],[]⟩)],[],[(1000064,⟨[0,2,4,7,8,64],[2,7,117,118],[],[],[],[],[]⟩),(1000112,⟨[2,7,112],[2,7,101,117,118],[],[],[],[],[]⟩)],[(0,fun _=>none)]⟩
def pol_Z85:Pol:=⟨15,[],[],[],[],[]⟩
def pol_Z119:Pol:=⟨13,[(5,[some 9]),(7,[some 10,none,some 11,some 12])],[],[],[],[]⟩
def pol_Z31:Pol:=⟨25,[],[],[],[],[]⟩
def pol_Z9:Pol:=⟨21,[],[],[],[],[]⟩
def pol_Z121:Pol:=⟨14,[],[],[],[],[]⟩
def pol_Z23:Pol:=⟨20,[],[],[],[],[]⟩
def pol_Z84:Pol:=⟨25,[],[],[],[(1000014,⟨[0,1,2,14],[],[],[],[],[],[]⟩)],[]⟩
def pol_Z122:Pol:=⟨21,[(17,[some 20])],[],[],[],[]⟩
def pol_Z18:Pol:=⟨52,[(44,[none,none,none,some 51])],[],[],[(1000013,⟨[1,2,3,6,13],[3,6],[],[],[],[],[]⟩)],[]⟩
def pol_Z118:Pol:=⟨32,[(22,[none,none,none,some 31])],[],[],[(1000020,⟨[2,3,4,20],[2,3,4],[],[],[],[],[]⟩)],[]⟩
def pol_Z120:Pol:=⟨14,[],[],[],[],[]⟩
def pol_Z116:Pol:=⟨17,[(13,[some 16])],[],[],[],[]⟩
def pol_Z20:Pol:=⟨64,[(50,[some 61,none,some 62,some 63])],[],[],[(1000017,⟨[4,5,6,7,8,17],[4,5,6,7,8],[],[],[],[],[]⟩),(1000033,⟨[4,5,6,7,8,33],[4,5,6,7,8],[],[],[],[],[]⟩)],[]⟩
def pol_Z28:Pol:=⟨73,[],[(5,⟨[1,3,27,28,29],[1],[],[],[],[],[]⟩)],[],[(1000023,⟨[1,23],[1],[],[],[],[],[]⟩),(1000061,⟨[1,3,27,28,29,61],[1],[],[],[],[],[]⟩)],[]⟩
def pol_Z7:Pol:=⟨32,[],[(5,⟨[1,3,10,11,12],[1,24],[(3,24,.str,true)],[],[],[],[]⟩)],[],[],[(0,fun _=>none)]⟩
def pol_Z8:Pol:=⟨6,[],[],[],[],[]⟩
def pol_Z10:Pol:=⟨31,[],[(7,⟨[3,16,17,18],[26],[(3,26,.str,true)],[],[],[],[]⟩)],[],[(1000012,⟨[0,12],[],[],[],[],[],[]⟩)],[(0,fun _=>none)]⟩
def pol_Z14:Pol:=⟨48,[(22,[some 46]),(32,[some 47])],[(4,⟨[0,2,4,14,15,16],[2,28],[(4,28,yL,true)],[],[],[],[]⟩)],[],[(9,⟨[0,2,4],[2,28],[(4,28,yL,true)],[],[],[],[]⟩),(1000042,⟨[2,9,42],[2,9,47],[],[],[],[],[]⟩)],[(0,fun _=>none)]⟩
def pol_Z16:Pol:=⟨34,[],[(5,⟨[0,4,12,13,14],[26],[(4,26,yI,true)],[],[],[],[]⟩)],[],[],[(0,fun _=>none)]⟩
def pol_Z36:Pol:=⟨33,[],[(3,⟨[1,3,9,10],[1,28],[(3,28,(.st (.cons yI (.cons yI (.cons yI .nil)))),true)],[],[],[],[]⟩),(6,⟨[1,3,4,9,10,15,16,17],[1,28],[(3,28,(.st (.cons yI (.cons yI (.cons yI .nil)))),true)],[],[],[],[]⟩)],[],[],[]⟩
def pol_Z124:Pol:=⟨7,[],[],[],[],[]⟩
def pol_Z166:Pol:=⟨113,[(24,[some 100,none,some 101,some 102]),(33,[some 103,none,some 104,some 105]),(54,[some 106,none,some 107,some 108]),(71,[some 111,none,some 112,some 109]),(96,[none,none,none,some 110])],[(17,⟨[0,2,3,4,7,8],[2,3,56,99],[],[],[],[],[]⟩),(22,⟨[0,2,4,9,10],[2,9,99,109,111,112],[],[],[],[109],[]⟩)],[],[(13,⟨[2,3,4,6],[2,3,39,99],[],[],[],[],[]⟩)],[]⟩
def pol_Z82:Pol:=⟨90,[],[(2,⟨[1,15,16,17],[1],[],[],[],[],[]⟩),(8,⟨[1,6,7,8,15,16,17,31,32],[1],[],[],[],[],[]⟩),(11,⟨[1,6,7,8,9,10,15,16,17,31,32],[1],[],[],[],[],[]⟩)],[],[(14,⟨[1,6,7,8,9,10,11,15,16,17,31,32],[1,11],[],[],[],[],[]⟩),(15,⟨[1,6,7,8,9,10,11,12,15,16,17,31,32],[1,11,12],[],[],[],[],[]⟩)],[]⟩
def pol_Z170:Pol:=⟨75,[],[(4,⟨[0,1,5],[],[],[],[],[],[]⟩)],[],[(1000049,⟨[0,1,49],[],[],[],[],[],[]⟩)],[]⟩
def pol_Z55:Pol:=⟨6,[],[],[],[],[]⟩
def pol_Z75:Pol:=⟨31,[],[(3,⟨[2,5,11,12,13],[2],[],[],[],[],[]⟩)],[],[],[]⟩
def pol_Z149:Pol:=⟨19,[],[],[],[],[]⟩
def pol_Z162:Pol:=⟨33,[],[(3,⟨[0,1,5,6],[7],[],[],[],[],[]⟩)],[],[],[]⟩
def pol_Z59:Pol:=⟨17,[],[],[],[],[]⟩
def pol_Z57:Pol:=⟨11,[],[],[],[],[]⟩
def pol_Z66:Pol:=⟨59,[(20,[none,none,none,some 57]),(50,[none,none,none,some 58])],[],[],[],[]⟩
def pol_Z136:Pol:=⟨13,[],[],[],[],[]⟩
def pol_Z146:Pol:=⟨99,[(22,[none,none,none,some 98])],[(3,⟨[0,1,4,5,6],[4,5,98],[],[],[],[],[]⟩),(6,⟨[0,1,4,5,6,7],[4,5,98],[],[],[],[],[]⟩),(10,⟨[0,1,4,5,6,7,8,9],[4,5,98],[],[],[],[],[]⟩)],[],[(2,⟨[0,1,4,5],[4,5,98],[],[],[],[],[]⟩)],[]⟩
def pol_Z145:Pol:=⟨76,[],[(4,⟨[0,1,5],[],[],[],[],[],[]⟩)],[],[(1000049,⟨[0,1,49],[],[],[],[],[],[]⟩)],[]⟩
def pol_Z154:Pol:=⟨38,[],[(4,⟨[0,5,6,7],[15],[],[],[],[],[]⟩)],[],[(1000024,⟨[0,5,6,7,24],[15],[],[],[],[],[]⟩)],[]⟩
def pol_Z26:Pol:=⟨38,[],[],[],[],[]⟩
def pol_Z81:Pol:=⟨18,[],[],[],[],[]⟩
def pol_Z74:Pol:=⟨6,[],[],[],[],[]⟩
def pol_Z44:Pol:=⟨29,[],[(3,⟨[2,5,13,14,15],[2,24],[(5,24,yI,true)],[],[],[],[]⟩)],[],[],[]⟩
def pol_Z69:Pol:=⟨32,[],[],[],[],[]⟩
def pol_Z42:Pol:=⟨22,[],[],[],[],[]⟩
def pol_Z70:Pol:=⟨44,[(14,[some 42]),(17,[some 43]),(31,[none,none,none,some 41])],[(3,⟨[3,8,9,20,21,22],[8,9,33,42,43],[],[(9,3,33,(.st yM),true)],[],[],[]⟩)],[],[],[]⟩
def pol_Z21:Pol:=⟨31,[],[],[],[(1000016,⟨[3,4,5,6,16],[5,6],[],[],[],[],[]⟩)],[]⟩
def pol_Z156:Pol:=⟨66,[],[(4,⟨[0,3],[],[],[],[],[],[]⟩),(10,⟨[0,3,4,5],[],[],[],[],[],[]⟩)],[],[(1000047,⟨[0,3,4,47],[],[],[],[],[],[]⟩),(1000056,⟨[0,3,4,5,56],[],[],[],[],[],[]⟩)],[]⟩
def pol_Z123:Pol:=⟨6,[],[],[],[],[]⟩
def pol_Z169:Pol:=⟨39,[],[(3,⟨[0,1,2,7,8],[],[],[],[],[],[]⟩)],[],[],[]⟩
def pol_Z24:Pol:=⟨41,[],[(2,⟨[1,6,7,8],[1],[],[],[1],[],[]⟩)],[],[(1000030,⟨[1,3,4,6,7,8,30],[1,3],[],[],[],[],[]⟩)],[]⟩
def pol_Z27:Pol:=⟨19,[],[(4,⟨[0,3],[],[],[],[],[],[]⟩)],[],[],[]⟩
def pol_Z34:Pol:=⟨28,[],[(4,⟨[1,2,16],[2],[],[],[],[],[]⟩)],[],[(1000015,⟨[1,2,15],[2],[],[],[],[],[]⟩)],[]⟩
def pol_Z54:Pol:=⟨36,[],[],[],[],[]⟩
def pol_Z46:Pol:=⟨23,[],[(3,⟨[1,3,7,8],[1,19],[(3,19,yI,true)],[],[],[],[]⟩)],[],[],[]⟩
def pol_Z95:Pol:=⟨11,[],[],[],[],[]⟩
def pol_Z11:Pol:=⟨7,[],[],[],[],[]⟩
def pol_Z62:Pol:=⟨6,[],[],[],[],[]⟩
def pol_Z168:Pol:=⟨61,[(12,[some 59]),(15,[some 60]),(50,[none,none,none,some 58])],[(3,⟨[0,1,2,6,7,8],[6,7,16,59,60],[],[],[],[],[]⟩),(7,⟨[0,1,2,6,7,8,9,10],[6,7,16,59,60],[],[],[],[],[]⟩)],[],[],[]⟩
def pol_Z137:Pol:=⟨29,[],[(2,⟨[0,1,2,7],[],[],[],[],[],[]⟩)],[],[],[]⟩
def pol_Z5:Pol:=⟨22,[(13,[some 21])],[],[],[],[]⟩
def pol_Z73:Pol:=⟨6,[],[],[],[],[]⟩
def pol_Z165:Pol:=⟨57,[(13,[some 52]),(19,[some 53]),(27,[some 54]),(36,[some 55]),(50,[some 56])],[(12,⟨[0,2,3,4],[2,37,51],[],[],[],[37],[]⟩)],[],[],[]⟩
def pol_Z131:Pol:=⟨14,[],[],[],[],[]⟩
def pol_Z134:Pol:=⟨22,[],[],[],[],[]⟩
def pol_Z164:Pol:=⟨51,[(28,[some 49,none,some 50,some 47]),(41,[none,none,none,some 48])],[(3,⟨[0,1,2,6,7,8],[6,11],[],[],[],[],[]⟩),(8,⟨[1,2,6,9,10],[6,9,47,49,50],[],[],[],[],[]⟩)],[],[],[]⟩
def pol_Z163:Pol:=⟨88,[(20,[some 86,none,some 87,some 84]),(35,[none,none,none,some 83]),(76,[none,none,none,some 85])],[(4,⟨[0,1,2,3,8,9,10,11],[8,9,21,79,84,86,87],[],[],[],[],[]⟩),(8,⟨[1,8,9,10,12],[8,9,21,79,84,86,87],[],[],[],[21],[]⟩),(12,⟨[1,8,9,10,12,13,14],[8,9,21,79,84,86,87],[],[],[],[21],[]⟩)],[],[],[]⟩
def pol_Z161:Pol:=⟨46,[(38,[some 45])],[(3,⟨[0,1,4,5,6],[4,5,7],[],[],[],[],[]⟩)],[],[],[]⟩
def pol_Z138:Pol:=⟨67,[(15,[none,none,none,some 66])],[(3,⟨[0,1,2,3,8,9,10],[8,9,62,66],[],[],[],[],[]⟩),(9,⟨[1,2,3,8,9,11],[8,9,62,66],[],[],[],[],[]⟩)],[],[(12,⟨[8,9],[8,9,62,66],[],[],[],[],[]⟩),(1000038,⟨[1,2,3,8,9,38],[8,9,62,66],[],[],[],[],[]⟩)],[]⟩
def pol_Z64:Pol:=⟨25,[(15,[none,none,none,some 24])],[],[],[],[]⟩
def pol_Z19:Pol:=⟨39,[],[],[],[],[]⟩
def pol_Z159:Pol:=⟨44,[],[(4,⟨[0,1,5],[],[],[],[],[],[]⟩)],[],[],[]⟩
def pol_Z130:Pol:=⟨28,[],[(4,⟨[0,1,5],[],[],[],[],[],[]⟩)],[],[],[]⟩
def pol_Z72:Pol:=⟨29,[],[(3,⟨[1,5,9,10,11],[24],[(5,24,yI,true)],[],[],[],[]⟩)],[],[],[]⟩
def pol_Z126:Pol:=⟨18,[],[],[],[],[]⟩
def pol_Z157:Pol:=⟨21,[],[(2,⟨[0,1,5],[],[],[],[],[],[]⟩)],[],[],[]⟩
def pol_Z58:Pol:=⟨10,[],[],[],[],[]⟩
def pol_Z101:Pol:=⟨11,[],[],[],[],[]⟩
def pol_Z79:Pol:=⟨12,[(8,[none,none,none,some 11])],[],[],[],[]⟩
def pol_Z107:Pol:=⟨21,[],[(2,⟨[0,1,7,8],[],[],[],[],[],[]⟩)],[],[],[]⟩
def pol_Z67:Pol:=⟨10,[],[],[],[],[]⟩
def pol_Z142:Pol:=⟨43,[],[],[],[],[]⟩
def pol_Z148:Pol:=⟨18,[],[],[],[],[]⟩
def pol_Z155:Pol:=⟨27,[],[(2,⟨[0,1,5],[],[],[],[],[],[]⟩)],[],[],[]⟩
def pol_Z153:Pol:=⟨19,[(9,[some 18])],[],[],[],[]⟩
def pol_Z61:Pol:=⟨6,[],[],[],[],[]⟩
def pol_Z32:Pol:=⟨11,[],[],[],[],[]⟩
def pol_Z45:Pol:=⟨29,[(22,[some 28])],[(3,⟨[0,3,6,7],[24],[(3,24,yL,true)],[],[],[],[]⟩)],[],[],[]⟩
def pol_Z53:Pol:=⟨19,[],[],[],[],[]⟩
def pol_Z51:Pol:=⟨32,[],[(3,⟨[5,12,13,14],[],[],[],[],[],[]⟩)],[],[],[]⟩
def pol_Z52:Pol:=⟨14,[(5,[some 12]),(9,[some 13])],[],[],[],[]⟩
def pol_Z88:Pol:=⟨9,[],[],[],[(1000004,⟨[0,4],[],[],[],[],[],[]⟩)],[]⟩
def pol_Z41:Pol:=⟨13,[(5,[some 12])],[],[],[],[]⟩
def pol_Z160:Pol:=⟨11,[],[],[],[],[]⟩
def pol_Z150:Pol:=⟨42,[],[(4,⟨[0,1,5],[],[],[],[],[],[]⟩)],[],[],[]⟩
def pol_Z135:Pol:=⟨19,[],[(4,⟨[0,3],[],[],[],[],[],[]⟩)],[],[],[]⟩
def pol_Z29:Pol:=⟨21,[],[],[],[],[]⟩
def pol_Z39:Pol:=⟨17,[],[],[],[],[]⟩
def pol_Z92:Pol:=⟨11,[],[],[],[],[]⟩
def pol_Z25:Pol:=⟨16,[],[],[],[],[]⟩
def pol_Z35:Pol:=⟨7,[],[],[],[],[]⟩
def pol_Z76:Pol:=⟨31,[],[(3,⟨[1,2,5,9,10,11],[2,26],[(5,26,yI,true)],[],[],[],[]⟩)],[],[],[]⟩
def pol_Z127:Pol:=⟨7,[],[],[],[],[]⟩
def pol_Z6:Pol:=⟨7,[],[],[],[],[]⟩
def pol_Z37:Pol:=⟨26,[(6,[some 24]),(18,[some 23]),(21,[some 25])],[(3,⟨[2,3,4],[2,24],[],[],[],[24],[]⟩)],[],[],[]⟩
def pol_Z151:Pol:=⟨20,[],[(3,⟨[0,2,3,4],[2,3,5],[],[],[],[5],[]⟩)],[],[],[]⟩
def pol_Z152:Pol:=⟨27,[],[(3,⟨[0,1,7,8],[24],[],[],[],[],[(1000007,0)]⟩)],[],[],[]⟩
def pol_Z132:Pol:=⟨63,[],[],[],[(4,⟨[0,3],[62],[],[],[],[],[]⟩)],[]⟩
def pol_Z147:Pol:=⟨28,[(10,[none,none,none,some 27])],[(3,⟨[1,4,5,6],[4,5,27],[],[],[],[],[]⟩)],[],[],[]⟩
def pol_Z167:Pol:=⟨65,[(15,[none,none,none,some 63]),(22,[none,none,none,some 64])],[(6,⟨[0,1,2,6,8,9],[6,8,60,64],[],[],[],[],[]⟩),(10,⟨[0,1,2,6,8,9,10],[6,8,60,64],[],[],[],[],[]⟩)],[],[],[]⟩
def pol_Z117:Pol:=⟨84,[(43,[none,none,none,some 83])],[(12,⟨[1,2,5,6,9,10],[1,2,5,6,9,83],[],[],[],[],[]⟩),(15,⟨[1,2,5,6,9,10,11],[1,2,5,6,9,83],[],[],[],[],[]⟩)],[],[],[]⟩
def pol_Z133:Pol:=⟨11,[],[],[],[],[]⟩
def pol_Z38:Pol:=⟨11,[(5,[some 10])],[],[],[],[]⟩
def pol_Z47:Pol:=⟨40,[],[(3,⟨[2,3,8,9,16,17],[8,9,31],[],[(9,3,31,yI,true)],[],[],[]⟩),(6,⟨[2,3,8,9,10,16,17,20,21],[8,9,31],[],[(9,3,31,yI,true)],[],[],[]⟩)],[],[],[]⟩
def pol_Z65:Pol:=⟨21,[],[],[],[],[]⟩
def pol_Z43:Pol:=⟨32,[],[(3,⟨[0,1,2,7,10,11],[],[],[],[],[],[]⟩)],[],[],[]⟩
def pol_Z13:Pol:=⟨22,[],[],[],[],[]⟩
def pol_Z102:Pol:=⟨28,[],[(4,⟨[0,1,12,13],[],[],[],[],[],[]⟩)],[],[],[]⟩
def pol_Z125:Pol:=⟨20,[],[(2,⟨[0,1,5],[],[],[],[],[],[]⟩)],[],[],[]⟩
def pol_Z114:Pol:=⟨21,[],[(2,⟨[0,1,7,8],[],[],[],[],[],[]⟩)],[],[],[]⟩
def pol_Z80:Pol:=⟨10,[],[],[],[],[]⟩
def pol_Z33:Pol:=⟨10,[],[],[],[],[]⟩
def pol_Z56:Pol:=⟨11,[],[],[],[],[]⟩
def pol_Z91:Pol:=⟨38,[(24,[some 37])],[(3,⟨[0,3,9,10,11],[],[],[],[],[],[]⟩),(11,⟨[6,25,26,27],[37],[],[],[],[],[]⟩)],[],[],[]⟩
def pol_Z86:Pol:=⟨52,[],[(3,⟨[0,1,2,8,9,10],[],[],[],[],[],[]⟩)],[],[],[]⟩
def pol_Z40:Pol:=⟨21,[(14,[some 20])],[(3,⟨[3,6,7,8],[16],[(3,16,yL,true)],[],[],[],[]⟩)],[],[],[]⟩
def pol_Z129:Pol:=⟨41,[],[(2,⟨[0,1,2,7],[],[],[],[],[],[]⟩)],[],[(1000037,⟨[0,1,2,7,37],[],[],[],[],[],[]⟩)],[]⟩
def pol_Z60:Pol:=⟨21,[],[(2,⟨[0,3],[],[],[],[],[],[]⟩)],[],[],[]⟩
def pol_Z30:Pol:=⟨7,[],[],[],[],[]⟩
def pol_Z63:Pol:=⟨6,[],[],[],[],[]⟩
def pol_Z2:Pol:=⟨19,[],[(3,⟨[3,6,7,8],[],[],[],[],[],[]⟩)],[],[],[]⟩
def pol_Z0:Pol:=⟨22,[],[],[],[],[]⟩
def pol_Z90:Pol:=⟨38,[],[(2,⟨[0,1,9,10,11],[],[],[],[],[],[]⟩)],[],[],[]⟩
def pol_Z104:Pol:=⟨21,[],[(2,⟨[0,1,7,8],[],[],[],[],[],[]⟩)],[],[],[]⟩
def pol_Z158:Pol:=⟨76,[(57,[some 75])],[(2,⟨[0,1,4],[71,73],[],[],[],[],[]⟩),(6,⟨[0,1,5],[71,73],[],[],[],[],[]⟩)],[],[(1000019,⟨[0,1,4,19],[71,73],[],[],[],[],[]⟩),(1000044,⟨[0,1,5,44],[71,73],[],[],[],[],[]⟩)],[]⟩
def pol_Z128:Pol:=⟨51,[],[(4,⟨[0,1,5,6,7],[8],[],[],[],[],[]⟩)],[],[(10,⟨[0,1,5,6,7],[8],[],[],[],[],[]⟩),(1000024,⟨[0,1,5,6,7,24],[8],[],[],[],[],[]⟩)],[]⟩
def pol_Z143:Pol:=⟨15,[],[],[],[],[]⟩
def pol_Z140:Pol:=⟨81,[],[(3,⟨[0,1,4,5,6],[4,5,24],[],[],[],[],[]⟩)],[],[(2,⟨[0,1,4,5],[4,5,24],[],[],[],[],[]⟩)],[]⟩
def pol_Z144:Pol:=⟨248,[(37,[some 247])],[(8,⟨[0,2,5,6,7,8,9,10,11],[2,5,47,247],[],[],[],[],[]⟩),(11,⟨[0,2,5,6,7,8,9,10,11,12],[2,5,47,247],[],[],[],[],[]⟩),(17,⟨[0,2,5,6,7,8,9,10,11,12,13],[2,5,47,247],[],[],[],[],[]⟩),(26,⟨[0,2,5,6,7,8,9,10,11,16,17],[2,5,47,247],[],[],[],[],[]⟩),(30,⟨[0,2,5,6,7,8,9,10,11,18],[2,5,47,247],[],[],[],[],[]⟩),(35,⟨[0,2,5,6,7,8,9,10,11,18,19,20],[2,5,47,247],[],[],[],[],[]⟩)],[],[(2,⟨[0,2,5],[2,5,247],[],[],[],[],[]⟩),(22,⟨[0,2,5,6,7,8,9,10,11],[2,5,47,247],[],[],[],[],[]⟩),(1000058,⟨[0,2,5,6,7,8,9,10,11,58],[2,5,47,247],[],[],[],[],[]⟩),(1000079,⟨[0,2,5,6,7,8,9,10,11,12,79],[2,5,47,247],[],[],[],[],[]⟩),(1000200,⟨[0,2,5,6,7,8,9,10,11,18,19,200],[2,5,47,247],[],[],[],[],[]⟩)],[]⟩
def pol_Z68:Pol:=⟨24,[(14,[some 23])],[(3,⟨[1,3,6,7],[1,16],[(3,16,yL,true)],[],[],[],[]⟩)],[],[],[]⟩
def pol_Z77:Pol:=⟨16,[(10,[none,none,none,some 15])],[],[],[],[]⟩
def pol_Z3:Pol:=⟨7,[],[],[],[],[]⟩
def pol_Z1:Pol:=⟨22,[],[],[],[],[]⟩
def pol_Z139:Pol:=⟨21,[],[(3,⟨[0,1,5,6],[],[],[],[],[],[]⟩)],[],[],[]⟩
def pol_Z141:Pol:=⟨14,[],[],[],[],[]⟩
def pol_Z78:Pol:=⟨13,[],[],[],[],[]⟩
def pol_Z12:Pol:=⟨23,[],[],[],[],[]⟩
def pol_Z4:Pol:=⟨7,[],[],[],[],[]⟩
def sigL:List (Option Sig):=[none,none,none,none,none,some sg_Z83,none,none,none,some sg_Z22,none,none,some sg_Z17,none,none,some sg_Z85,some sg_Z119,some sg_Z31,some sg_Z9,some sg_Z121,some sg_Z23,some sg_Z84,some sg_Z122,some sg_Z18,some sg_Z118,some sg_Z120,some sg_Z116,some sg_Z20,none,none,none,none,none,none,none,none,some sg_Z28,some sg_Z7,some sg_Z8,some sg_Z10,some sg_Z172,none,none,none,none,some sg_Z173,some sg_Z14,some sg_Z15,some sg_Z16,some sg_Z36,none,none,none,none,none,none,some sg_Z124,some sg_Z166,some sg_Z82,some sg_Z170,some sg_Z55,some sg_Z75,some sg_Z149,some sg_Z162,some sg_Z59,some sg_Z57,some sg_Z66,some sg_Z136,some sg_Z146,some sg_Z145,some sg_Z154,some sg_Z26,some sg_Z81,some sg_Z74,some sg_Z44,some sg_Z69,some sg_Z42,some sg_Z70,some sg_Z21,none,none,some sg_Z156,some sg_Z123,none,none,none,some sg_Z169,none,none,none,none,none,some sg_Z24,some sg_Z27,some sg_Z34,some sg_Z54,some sg_Z46,some sg_Z171,some sg_Z95,some sg_Z11,some sg_Z62,none,none,none,none,none,none,none,none,none,some sg_Z168,some sg_Z137,none,some sg_Z5,none,none,some sg_Z73,none,none,some sg_Z165,some sg_Z131,some sg_Z134,some sg_Z164,some sg_Z163,some sg_Z161,some sg_Z138,some sg_Z64,some sg_Z19,some sg_Z159,some sg_Z130,some sg_Z72,some sg_Z126,some sg_Z157,some sg_Z58,some sg_Z101,some sg_Z79,some sg_Z107,some sg_Z67,some sg_Z142,some sg_Z148,some sg_Z155,some sg_Z153,some sg_Z61,some sg_Z32,some sg_Z45,some sg_Z53,some sg_Z51,some sg_Z52,some sg_Z88,some sg_Z41,some sg_Z160,some sg_Z150,some sg_Z135,none,none,some sg_Z29,some sg_Z39,some sg_Z92,some sg_Z25,some sg_Z35,some sg_Z76,none,none,none,none,none,some sg_Z127,none,none,none,some sg_Z6,some sg_Z37,none,none,none,some sg_Z151,some sg_Z152,some sg_Z132,some sg_Z147,some sg_Z167,some sg_Z117,some sg_Z133,some sg_Z38,some sg_Z47,some sg_Z65,some sg_Z43,some sg_Z13,some sg_Z102,some sg_Z125,some sg_Z114,some sg_Z80,some sg_Z33,some sg_Z56,some sg_Z91,some sg_Z86,some sg_Z40,some sg_Z115,some sg_Z89,some sg_Z129,none,some sg_Z60,some sg_Z30,some sg_Z63,some sg_Z2,some sg_Z0,some sg_Z90,some sg_Z104,none,none,none,none,none,none,none,none,none,none,none,none,none,none,none,none,some sg_Z158,some sg_Z128,some sg_Z143,some sg_Z140,some sg_Z144,some sg_Z68,some sg_Z77,some sg_Z103,none,none,some sg_Z3,some sg_Z1,none,none,none,none,none,none,none,none,none,none,none,none,none,none,none,some sg_Z139,some sg_Z141,some sg_Z78,some sg_Z12,none,none,none,none,none,none,none,none,none,some sg_Z4,none,none,none,none,none,none,none,none,none,none,none,none,none,none,none,none,none,none,none,none,none,none,none,none,none,none,none,none,none,none,none,none,none,none,none,none,none,none,none,none,none]
def fnL:List (Option (Func×Pol)):=[none,none,none,none,none,some (F_Z83,pol_Z83),none,none,none,some (F_Z22,pol_Z22),none,none,some (F_Z17,pol_Z17),none,none,some (F_Z85,pol_Z85),some (F_Z119,pol_Z119),some (F_Z31,pol_Z31),some (F_Z9,pol_Z9),some (F_Z121,pol_Z121),some (F_Z23,pol_Z23),some (F_Z84,pol_Z84),some (F_Z122,pol_Z122),some (F_Z18,pol_Z18),some (F_Z118,pol_Z118),some (F_Z120,pol_Z120),some (F_Z116,pol_Z116),some (F_Z20,pol_Z20),none,none,none,none,none,none,none,none,some (F_Z28,pol_Z28),some (F_Z7,pol_Z7),some (F_Z8,pol_Z8),some (F_Z10,pol_Z10),none,none,none,none,none,none,some (F_Z14,pol_Z14),none,some (F_Z16,pol_Z16),some (F_Z36,pol_Z36),none,none,none,none,none,none,some (F_Z124,pol_Z124),some (F_Z166,pol_Z166),some (F_Z82,pol_Z82),some (F_Z170,pol_Z170),some (F_Z55,pol_Z55),some (F_Z75,pol_Z75),some (F_Z149,pol_Z149),some (F_Z162,pol_Z162),some (F_Z59,pol_Z59),some (F_Z57,pol_Z57),some (F_Z66,pol_Z66),some (F_Z136,pol_Z136),some (F_Z146,pol_Z146),some (F_Z145,pol_Z145),some (F_Z154,pol_Z154),some (F_Z26,pol_Z26),some (F_Z81,pol_Z81),some (F_Z74,pol_Z74),some (F_Z44,pol_Z44),some (F_Z69,pol_Z69),some (F_Z42,pol_Z42),some (F_Z70,pol_Z70),some (F_Z21,pol_Z21),none,none,some (F_Z156,pol_Z156),some (F_Z123,pol_Z123),none,none,none,some (F_Z169,pol_Z169),none,none,none,none,none,some (F_Z24,pol_Z24),some (F_Z27,pol_Z27),some (F_Z34,pol_Z34),some (F_Z54,pol_Z54),some (F_Z46,pol_Z46),none,some (F_Z95,pol_Z95),some (F_Z11,pol_Z11),some (F_Z62,pol_Z62),none,none,none,none,none,none,none,none,none,some (F_Z168,pol_Z168),some (F_Z137,pol_Z137),none,some (F_Z5,pol_Z5),none,none,some (F_Z73,pol_Z73),none,none,some (F_Z165,pol_Z165),some (F_Z131,pol_Z131),some (F_Z134,pol_Z134),some (F_Z164,pol_Z164),some (F_Z163,pol_Z163),some (F_Z161,pol_Z161),some (F_Z138,pol_Z138),some (F_Z64,pol_Z64),some (F_Z19,pol_Z19),some (F_Z159,pol_Z159),some (F_Z130,pol_Z130),some (F_Z72,pol_Z72),some (F_Z126,pol_Z126),some (F_Z157,pol_Z157),some (F_Z58,pol_Z58),some (F_Z101,pol_Z101),some (F_Z79,pol_Z79),some (F_Z107,pol_Z107),some (F_Z67,pol_Z67),some (F_Z142,pol_Z142),some (F_Z148,pol_Z148),some (F_Z155,pol_Z155),some (F_Z153,pol_Z153),some (F_Z61,pol_Z61),some (F_Z32,pol_Z32),some (F_Z45,pol_Z45),some (F_Z53,pol_Z53),some (F_Z51,pol_Z51),some (F_Z52,pol_Z52),some (F_Z88,pol_Z88),some (F_Z41,pol_Z41),some (F_Z160,pol_Z160),some (F_Z150,pol_Z150),some (F_Z135,pol_Z135),none,none,some (F_Z29,pol_Z29),some (F_Z39,pol_Z39),some (F_Z92,pol_Z92),some (F_Z25,pol_Z25),some (F_Z35,pol_Z35),some (F_Z76,pol_Z76),none,none,none,none,none,some (F_Z127,pol_Z127),none,none,none,some (F_Z6,pol_Z6),some (F_Z37,pol_Z37),none,none,none,some (F_Z151,pol_Z151),some (F_Z152,pol_Z152),some (F_Z132,pol_Z132),some (F_Z147,pol_Z147),some (F_Z167,pol_Z167),some (F_Z117,pol_Z117),some (F_Z133,pol_Z133),some (F_Z38,pol_Z38),some (F_Z47,pol_Z47),some (F_Z65,pol_Z65),some (F_Z43,pol_Z43),some (F_Z13,pol_Z13),some (F_Z102,pol_Z102),some (F_Z125,pol_Z125),some (F_Z114,pol_Z114),some (F_Z80,pol_Z80),some (F_Z33,pol_Z33),some (F_Z56,pol_Z56),some (F_Z91,pol_Z91),some (F_Z86,pol_Z86),some (F_Z40,pol_Z40),none,none,some (F_Z129,pol_Z129),none,some (F_Z60,pol_Z60),some (F_Z30,pol_Z30),some (F_Z63,pol_Z63),some (F_Z2,pol_Z2),some (F_Z0,pol_Z0),some (F_Z90,pol_Z90),some (F_Z104,pol_Z104),none,none,none,none,none,none,none,none,none,none,none,none,none,none,none,none,some (F_Z158,pol_Z158),some (F_Z128,pol_Z128),some (F_Z143,pol_Z143),some (F_Z140,pol_Z140),some (F_Z144,pol_Z144),some (F_Z68,pol_Z68),some (F_Z77,pol_Z77),none,none,none,some (F_Z3,pol_Z3),some (F_Z1,pol_Z1),none,none,none,none,none,none,none,none,none,none,none,none,none,none,none,some (F_Z139,pol_Z139),some (F_Z141,pol_Z141),some (F_Z78,pol_Z78),some (F_Z12,pol_Z12),none,none,none,none,none,none,none,none,none,some (F_Z4,pol_Z4),none,none,none,none,none,none,none,none,none,none,none,none,none,none,none,none,none,none,none,none,none,none,none,none,none,none,none,none,none,none,none,none,none,none,none,none,none,none,none,none,none]
def primL:List (Option (Run→List Dv→Option Dv)):=[none,none,none,none,none,none,none,none,none,none,none,none,none,none,none,none,none,none,none,none,none,none,none,none,none,none,none,none,none,none,none,none,none,none,none,none,none,none,none,none,some qn9,none,none,none,none,some qjq,none,some qeq,none,none,none,none,none,none,none,none,none,none,none,none,none,none,none,none,none,none,none,none,none,none,none,none,none,none,none,none,none,none,none,none,none,none,none,none,none,none,none,none,none,none,none,none,none,none,none,none,none,some qr0,none,none,none,none,none,none,none,none,none,none,none,none,none,none,none,none,none,none,none,none,none,none,none,none,none,none,none,none,none,none,none,none,none,none,none,none,none,none,none,none,none,none,none,none,none,none,none,none,none,none,none,none,none,none,none,none,none,none,none,none,none,none,none,none,none,none,none,none,none,none,none,none,none,none,none,none,none,none,none,none,none,none,none,none,none,none,none,none,none,none,none,none,none,none,none,none,none,none,some (qgr n_Z39),some (qcf n_Z102),none,none,none,none,none,none,none,none,none,none,none,none,none,none,none,none,none,none,none,none,none,none,none,none,none,none,none,none,none,none,none,none,some (qnM yI),none,none,none,none,none,none,none,none,none,none,none,none,none,none,none,none,none,none,none,none,none,none,none,none,none,none,none,none,none,none,none,none,none,none,none,none,none,none,none,none,none,none,none,none,none,none,none,none,none,none,none,none,none,none,none,none,none,none,none,none,none,none,none,none,none,none,none,none,none,none,none,none,none,none]
def gv(s:String):Nat:=(Tryz.prog.globalNamed s).getD 0
def gsL:Gls := [(gv "internal/strconv.uint64pow10", fun cs => cs = (Go.Lib.pow10Tab.map fun z => Value.int .u64 z).toArray), (gv "strconv.ErrSyntax", fun cs => ∃ tp p, cs = #[.iface tp p]), (gv "strconv.ErrRange", fun cs => ∃ tp p, cs = #[.iface tp p]), (gv "internal/bytealg.MaxLen", fun cs => ∃ m, cs[0]? = some (.int .i64 m))]
def E:Env:={ P:=Tryz.prog,fn:=fun f=>fnL.getD f none,prim:=fun f=>primL.getD f none,sig:=fun f=>sigL.getD f none,gs:=gsL }
theorem sig_laws_FnSheaves_eq:E.sig n_Z83=some sg_Z83:=rfl
abbrev RT(f:Nat)(s:Sig)(q:Pol)(F:Func):Prop:=∀ n args,run E (n+1) f args=qsy E (mkR (run E n)) s q F n args
theorem run_Z83:RT n_Z83 sg_Z83 pol_Z83 F_Z83:=fun _ _=>rfl
theorem run_Z22:RT n_Z22 sg_Z22 pol_Z22 F_Z22:=fun _ _=>rfl
theorem run_Z17:RT n_Z17 sg_Z17 pol_Z17 F_Z17:=fun _ _=>rfl
theorem run_Z85:RT n_Z85 sg_Z85 pol_Z85 F_Z85:=fun _ _=>rfl
theorem run_Z119:RT n_Z119 sg_Z119 pol_Z119 F_Z119:=fun _ _=>rfl
theorem run_Z31:RT n_Z31 sg_Z31 pol_Z31 F_Z31:=fun _ _=>rfl
theorem run_Z9:RT n_Z9 sg_Z9 pol_Z9 F_Z9:=fun _ _=>rfl
theorem run_Z121:RT n_Z121 sg_Z121 pol_Z121 F_Z121:=fun _ _=>rfl
theorem run_Z23:RT n_Z23 sg_Z23 pol_Z23 F_Z23:=fun _ _=>rfl
theorem run_Z84:RT n_Z84 sg_Z84 pol_Z84 F_Z84:=fun _ _=>rfl
theorem run_Z122:RT n_Z122 sg_Z122 pol_Z122 F_Z122:=fun _ _=>rfl
theorem run_Z18:RT n_Z18 sg_Z18 pol_Z18 F_Z18:=fun _ _=>rfl
theorem run_Z118:RT n_Z118 sg_Z118 pol_Z118 F_Z118:=fun _ _=>rfl
theorem run_Z120:RT n_Z120 sg_Z120 pol_Z120 F_Z120:=fun _ _=>rfl
theorem run_Z116:RT n_Z116 sg_Z116 pol_Z116 F_Z116:=fun _ _=>rfl
theorem run_Z20:RT n_Z20 sg_Z20 pol_Z20 F_Z20:=fun _ _=>rfl
theorem run_Z28:RT n_Z28 sg_Z28 pol_Z28 F_Z28:=fun _ _=>rfl
theorem run_Z7:RT n_Z7 sg_Z7 pol_Z7 F_Z7:=fun _ _=>rfl
theorem run_Z8:RT n_Z8 sg_Z8 pol_Z8 F_Z8:=fun _ _=>rfl
theorem run_Z10:RT n_Z10 sg_Z10 pol_Z10 F_Z10:=fun _ _=>rfl
theorem sig_strings_Join_eq:E.sig n_Z172=some sg_Z172:=rfl
theorem sig_strings_Split_eq:E.sig n_Z173=some sg_Z173:=rfl
theorem run_Z14:RT n_Z14 sg_Z14 pol_Z14 F_Z14:=fun _ _=>rfl
theorem sig_impl_ReadDecimal_eq:E.sig n_Z15=some sg_Z15:=rfl
theorem run_Z16:RT n_Z16 sg_Z16 pol_Z16 F_Z16:=fun _ _=>rfl
theorem run_Z36:RT n_Z36 sg_Z36 pol_Z36 F_Z36:=fun _ _=>rfl
theorem run_Z124:RT n_Z124 sg_Z124 pol_Z124 F_Z124:=fun _ _=>rfl
theorem run_Z166:RT n_Z166 sg_Z166 pol_Z166 F_Z166:=fun _ _=>rfl
theorem run_Z82:RT n_Z82 sg_Z82 pol_Z82 F_Z82:=fun _ _=>rfl
theorem run_Z170:RT n_Z170 sg_Z170 pol_Z170 F_Z170:=fun _ _=>rfl
theorem run_Z55:RT n_Z55 sg_Z55 pol_Z55 F_Z55:=fun _ _=>rfl
theorem run_Z75:RT n_Z75 sg_Z75 pol_Z75 F_Z75:=fun _ _=>rfl
theorem run_Z149:RT n_Z149 sg_Z149 pol_Z149 F_Z149:=fun _ _=>rfl
theorem run_Z162:RT n_Z162 sg_Z162 pol_Z162 F_Z162:=fun _ _=>rfl
theorem run_Z59:RT n_Z59 sg_Z59 pol_Z59 F_Z59:=fun _ _=>rfl
theorem run_Z57:RT n_Z57 sg_Z57 pol_Z57 F_Z57:=fun _ _=>rfl
theorem run_Z66:RT n_Z66 sg_Z66 pol_Z66 F_Z66:=fun _ _=>rfl
theorem run_Z136:RT n_Z136 sg_Z136 pol_Z136 F_Z136:=fun _ _=>rfl
theorem run_Z146:RT n_Z146 sg_Z146 pol_Z146 F_Z146:=fun _ _=>rfl
theorem run_Z145:RT n_Z145 sg_Z145 pol_Z145 F_Z145:=fun _ _=>rfl
theorem run_Z154:RT n_Z154 sg_Z154 pol_Z154 F_Z154:=fun _ _=>rfl
theorem run_Z26:RT n_Z26 sg_Z26 pol_Z26 F_Z26:=fun _ _=>rfl
theorem run_Z81:RT n_Z81 sg_Z81 pol_Z81 F_Z81:=fun _ _=>rfl
theorem run_Z74:RT n_Z74 sg_Z74 pol_Z74 F_Z74:=fun _ _=>rfl
theorem run_Z44:RT n_Z44 sg_Z44 pol_Z44 F_Z44:=fun _ _=>rfl
theorem run_Z69:RT n_Z69 sg_Z69 pol_Z69 F_Z69:=fun _ _=>rfl
theorem run_Z42:RT n_Z42 sg_Z42 pol_Z42 F_Z42:=fun _ _=>rfl
theorem run_Z70:RT n_Z70 sg_Z70 pol_Z70 F_Z70:=fun _ _=>rfl
theorem run_Z21:RT n_Z21 sg_Z21 pol_Z21 F_Z21:=fun _ _=>rfl
theorem run_Z156:RT n_Z156 sg_Z156 pol_Z156 F_Z156:=fun _ _=>rfl
theorem run_Z123:RT n_Z123 sg_Z123 pol_Z123 F_Z123:=fun _ _=>rfl
theorem run_Z169:RT n_Z169 sg_Z169 pol_Z169 F_Z169:=fun _ _=>rfl
theorem run_Z24:RT n_Z24 sg_Z24 pol_Z24 F_Z24:=fun _ _=>rfl
theorem run_Z27:RT n_Z27 sg_Z27 pol_Z27 F_Z27:=fun _ _=>rfl
theorem run_Z34:RT n_Z34 sg_Z34 pol_Z34 F_Z34:=fun _ _=>rfl
theorem run_Z54:RT n_Z54 sg_Z54 pol_Z54 F_Z54:=fun _ _=>rfl
theorem run_Z46:RT n_Z46 sg_Z46 pol_Z46 F_Z46:=fun _ _=>rfl
theorem sig_strconv_FormatInt_eq:E.sig n_Z171=some sg_Z171:=rfl
theorem run_Z95:RT n_Z95 sg_Z95 pol_Z95 F_Z95:=fun _ _=>rfl
theorem run_Z11:RT n_Z11 sg_Z11 pol_Z11 F_Z11:=fun _ _=>rfl
theorem run_Z62:RT n_Z62 sg_Z62 pol_Z62 F_Z62:=fun _ _=>rfl
theorem run_Z168:RT n_Z168 sg_Z168 pol_Z168 F_Z168:=fun _ _=>rfl
theorem run_Z137:RT n_Z137 sg_Z137 pol_Z137 F_Z137:=fun _ _=>rfl
theorem run_Z5:RT n_Z5 sg_Z5 pol_Z5 F_Z5:=fun _ _=>rfl
theorem run_Z73:RT n_Z73 sg_Z73 pol_Z73 F_Z73:=fun _ _=>rfl
theorem run_Z165:RT n_Z165 sg_Z165 pol_Z165 F_Z165:=fun _ _=>rfl
theorem run_Z131:RT n_Z131 sg_Z131 pol_Z131 F_Z131:=fun _ _=>rfl
theorem run_Z134:RT n_Z134 sg_Z134 pol_Z134 F_Z134:=fun _ _=>rfl
theorem run_Z164:RT n_Z164 sg_Z164 pol_Z164 F_Z164:=fun _ _=>rfl
theorem run_Z163:RT n_Z163 sg_Z163 pol_Z163 F_Z163:=fun _ _=>rfl
theorem run_Z161:RT n_Z161 sg_Z161 pol_Z161 F_Z161:=fun _ _=>rfl
theorem run_Z138:RT n_Z138 sg_Z138 pol_Z138 F_Z138:=fun _ _=>rfl
theorem run_Z64:RT n_Z64 sg_Z64 pol_Z64 F_Z64:=fun _ _=>rfl
theorem run_Z19:RT n_Z19 sg_Z19 pol_Z19 F_Z19:=fun _ _=>rfl
theorem run_Z159:RT n_Z159 sg_Z159 pol_Z159 F_Z159:=fun _ _=>rfl
theorem run_Z130:RT n_Z130 sg_Z130 pol_Z130 F_Z130:=fun _ _=>rfl
theorem run_Z72:RT n_Z72 sg_Z72 pol_Z72 F_Z72:=fun _ _=>rfl
theorem run_Z126:RT n_Z126 sg_Z126 pol_Z126 F_Z126:=fun _ _=>rfl
theorem run_Z157:RT n_Z157 sg_Z157 pol_Z157 F_Z157:=fun _ _=>rfl
theorem run_Z58:RT n_Z58 sg_Z58 pol_Z58 F_Z58:=fun _ _=>rfl
theorem run_Z101:RT n_Z101 sg_Z101 pol_Z101 F_Z101:=fun _ _=>rfl
theorem run_Z79:RT n_Z79 sg_Z79 pol_Z79 F_Z79:=fun _ _=>rfl
theorem run_Z107:RT n_Z107 sg_Z107 pol_Z107 F_Z107:=fun _ _=>rfl
theorem run_Z67:RT n_Z67 sg_Z67 pol_Z67 F_Z67:=fun _ _=>rfl
theorem run_Z142:RT n_Z142 sg_Z142 pol_Z142 F_Z142:=fun _ _=>rfl
theorem run_Z148:RT n_Z148 sg_Z148 pol_Z148 F_Z148:=fun _ _=>rfl
theorem run_Z155:RT n_Z155 sg_Z155 pol_Z155 F_Z155:=fun _ _=>rfl
theorem run_Z153:RT n_Z153 sg_Z153 pol_Z153 F_Z153:=fun _ _=>rfl
theorem run_Z61:RT n_Z61 sg_Z61 pol_Z61 F_Z61:=fun _ _=>rfl
theorem run_Z32:RT n_Z32 sg_Z32 pol_Z32 F_Z32:=fun _ _=>rfl
theorem run_Z45:RT n_Z45 sg_Z45 pol_Z45 F_Z45:=fun _ _=>rfl
theorem run_Z53:RT n_Z53 sg_Z53 pol_Z53 F_Z53:=fun _ _=>rfl
theorem run_Z51:RT n_Z51 sg_Z51 pol_Z51 F_Z51:=fun _ _=>rfl
theorem run_Z52:RT n_Z52 sg_Z52 pol_Z52 F_Z52:=fun _ _=>rfl
theorem run_Z88:RT n_Z88 sg_Z88 pol_Z88 F_Z88:=fun _ _=>rfl
theorem run_Z41:RT n_Z41 sg_Z41 pol_Z41 F_Z41:=fun _ _=>rfl
theorem run_Z160:RT n_Z160 sg_Z160 pol_Z160 F_Z160:=fun _ _=>rfl
theorem run_Z150:RT n_Z150 sg_Z150 pol_Z150 F_Z150:=fun _ _=>rfl
theorem run_Z135:RT n_Z135 sg_Z135 pol_Z135 F_Z135:=fun _ _=>rfl
theorem run_Z29:RT n_Z29 sg_Z29 pol_Z29 F_Z29:=fun _ _=>rfl
theorem sig_impl_compareSimplices_eq:E.sig n_Z39=some sg_Z39:=rfl
theorem run_Z39:RT n_Z39 sg_Z39 pol_Z39 F_Z39:=fun _ _=>rfl
theorem run_Z92:RT n_Z92 sg_Z92 pol_Z92 F_Z92:=fun _ _=>rfl
theorem run_Z25:RT n_Z25 sg_Z25 pol_Z25 F_Z25:=fun _ _=>rfl
theorem run_Z35:RT n_Z35 sg_Z35 pol_Z35 F_Z35:=fun _ _=>rfl
theorem run_Z76:RT n_Z76 sg_Z76 pol_Z76 F_Z76:=fun _ _=>rfl
theorem run_Z127:RT n_Z127 sg_Z127 pol_Z127 F_Z127:=fun _ _=>rfl
theorem run_Z6:RT n_Z6 sg_Z6 pol_Z6 F_Z6:=fun _ _=>rfl
theorem run_Z37:RT n_Z37 sg_Z37 pol_Z37 F_Z37:=fun _ _=>rfl
theorem run_Z151:RT n_Z151 sg_Z151 pol_Z151 F_Z151:=fun _ _=>rfl
theorem run_Z152:RT n_Z152 sg_Z152 pol_Z152 F_Z152:=fun _ _=>rfl
theorem run_Z132:RT n_Z132 sg_Z132 pol_Z132 F_Z132:=fun _ _=>rfl
theorem run_Z147:RT n_Z147 sg_Z147 pol_Z147 F_Z147:=fun _ _=>rfl
theorem run_Z167:RT n_Z167 sg_Z167 pol_Z167 F_Z167:=fun _ _=>rfl
theorem run_Z117:RT n_Z117 sg_Z117 pol_Z117 F_Z117:=fun _ _=>rfl
theorem run_Z133:RT n_Z133 sg_Z133 pol_Z133 F_Z133:=fun _ _=>rfl
theorem run_Z38:RT n_Z38 sg_Z38 pol_Z38 F_Z38:=fun _ _=>rfl
theorem run_Z47:RT n_Z47 sg_Z47 pol_Z47 F_Z47:=fun _ _=>rfl
theorem run_Z65:RT n_Z65 sg_Z65 pol_Z65 F_Z65:=fun _ _=>rfl
theorem run_Z43:RT n_Z43 sg_Z43 pol_Z43 F_Z43:=fun _ _=>rfl
theorem run_Z13:RT n_Z13 sg_Z13 pol_Z13 F_Z13:=fun _ _=>rfl
theorem run_Z102:RT n_Z102 sg_Z102 pol_Z102 F_Z102:=fun _ _=>rfl
theorem run_Z125:RT n_Z125 sg_Z125 pol_Z125 F_Z125:=fun _ _=>rfl
theorem run_Z114:RT n_Z114 sg_Z114 pol_Z114 F_Z114:=fun _ _=>rfl
theorem run_Z80:RT n_Z80 sg_Z80 pol_Z80 F_Z80:=fun _ _=>rfl
theorem run_Z33:RT n_Z33 sg_Z33 pol_Z33 F_Z33:=fun _ _=>rfl
theorem run_Z56:RT n_Z56 sg_Z56 pol_Z56 F_Z56:=fun _ _=>rfl
theorem run_Z91:RT n_Z91 sg_Z91 pol_Z91 F_Z91:=fun _ _=>rfl
theorem run_Z86:RT n_Z86 sg_Z86 pol_Z86 F_Z86:=fun _ _=>rfl
theorem run_Z40:RT n_Z40 sg_Z40 pol_Z40 F_Z40:=fun _ _=>rfl
theorem sig_slices_SortFunc_SSint64_Sint64_eq:E.sig n_Z115=some sg_Z115:=rfl
theorem sig_slices_CompactFunc_SSint64_Sint64_eq:E.sig n_Z89=some sg_Z89:=rfl
theorem run_Z129:RT n_Z129 sg_Z129 pol_Z129 F_Z129:=fun _ _=>rfl
theorem run_Z60:RT n_Z60 sg_Z60 pol_Z60 F_Z60:=fun _ _=>rfl
theorem run_Z30:RT n_Z30 sg_Z30 pol_Z30 F_Z30:=fun _ _=>rfl
theorem run_Z63:RT n_Z63 sg_Z63 pol_Z63 F_Z63:=fun _ _=>rfl
theorem run_Z2:RT n_Z2 sg_Z2 pol_Z2 F_Z2:=fun _ _=>rfl
theorem run_Z0:RT n_Z0 sg_Z0 pol_Z0 F_Z0:=fun _ _=>rfl
theorem run_Z90:RT n_Z90 sg_Z90 pol_Z90 F_Z90:=fun _ _=>rfl
theorem run_Z104:RT n_Z104 sg_Z104 pol_Z104 F_Z104:=fun _ _=>rfl
theorem run_Z158:RT n_Z158 sg_Z158 pol_Z158 F_Z158:=fun _ _=>rfl
theorem run_Z128:RT n_Z128 sg_Z128 pol_Z128 F_Z128:=fun _ _=>rfl
theorem run_Z143:RT n_Z143 sg_Z143 pol_Z143 F_Z143:=fun _ _=>rfl
theorem run_Z140:RT n_Z140 sg_Z140 pol_Z140 F_Z140:=fun _ _=>rfl
theorem run_Z144:RT n_Z144 sg_Z144 pol_Z144 F_Z144:=fun _ _=>rfl
theorem run_Z68:RT n_Z68 sg_Z68 pol_Z68 F_Z68:=fun _ _=>rfl
theorem run_Z77:RT n_Z77 sg_Z77 pol_Z77 F_Z77:=fun _ _=>rfl
theorem sig_slices_Grow_Sint64_int64_eq:E.sig n_Z103=some sg_Z103:=rfl
theorem run_Z3:RT n_Z3 sg_Z3 pol_Z3 F_Z3:=fun _ _=>rfl
theorem run_Z1:RT n_Z1 sg_Z1 pol_Z1 F_Z1:=fun _ _=>rfl
theorem run_Z139:RT n_Z139 sg_Z139 pol_Z139 F_Z139:=fun _ _=>rfl
theorem run_Z141:RT n_Z141 sg_Z141 pol_Z141 F_Z141:=fun _ _=>rfl
theorem run_Z78:RT n_Z78 sg_Z78 pol_Z78 F_Z78:=fun _ _=>rfl
theorem run_Z12:RT n_Z12 sg_Z12 pol_Z12 F_Z12:=fun _ _=>rfl
theorem run_Z4:RT n_Z4 sg_Z4 pol_Z4 F_Z4:=fun _ _=>rfl
abbrev eC(R:Run)(q:Pol)(N:Nat)(l:List Nat)(F:Func):=qbu E R q N (sub l (bodyOf F))
abbrev kB(R:Run)(q:Pol)(k:Nat)(K:Kt):=qsk (qb6 R q.blkM k) k K
abbrev kS(R:Run)(q:Pol)(k N:Nat)(l:List Nat)(F:Func)(K:Kt):=qsp (qb6 R q.seqM k) (qbu E R q N (sub l (bodyOf F))) K
abbrev kL(R:Run)(q:Pol)(k N:Nat)(l:List Nat)(F:Func)(n:Nat)(K:Kt):=qsZ (qbu E R q N (sub l (bodyOf F))) (qb6 R q.loopM k) n K
abbrev lC(R:Run)(q:Pol)(k N:Nat)(l:List Nat)(F:Func)(n:Nat)(s:Ve.St)(K:Kt):=qmb (qbu E R q N (sub l (bodyOf F))) (qb6 R q.loopM k) n s K
end
end VeT

open Go Go.Proofs Ve
set_option maxRecDepth 100000
namespace VeT
noncomputable section
abbrev q0_0(R:Run)(N:Nat):=kS R pol_Z128 11 N [1,1,1,1] F_Z128
abbrev q0_1(R:Run)(N:Nat):=kS R pol_Z144 31 N [1,1,1,1,1,1,1,0,1,0,0,1,0,0,1,1,1,1,1,1,1,1,0,1,0,0,1,1] F_Z144
abbrev q0_2(R:Run)(N:Nat):=kS R pol_Z144 38 N [1,1,1,1,1,1,1,0,1,0,0,1,0,0,1,1,1,1,1,1,1,1,1] F_Z144
abbrev q0_3(R:Run)(N:Nat):=kS R pol_Z144 9 N [1,1,1,1,1,1,1,0,1,0,0,1,1] F_Z144
abbrev q0_4(R:Run)(N:Nat):=kS R pol_Z144 40 N [1,1,1,1,1,1,1,1] F_Z144
abbrev q0_5(R:Run)(N:Nat):=kS R pol_Z144 13 N [1,1,1,1,1,1,1,0,1,0,0,1,0,0,1,1] F_Z144
abbrev q0_6(R:Run)(N:Nat):=kL R pol_Z144 30 N [1,1,1,1,1,1,1,0,1,0,0,1,0,0,1,1,1,1,1,1,1,1,0,1,0,0] F_Z144
abbrev q0_7(R:Run)(N:Nat):=kL R pol_Z144 8 N [1,1,1,1,1,1,1,0,1,0,0] F_Z144
abbrev q0_8(R:Run):=kB R pol_Z144 1
abbrev q0_9(R:Run):=kB R pol_Z144 0
theorem Z85.ev(R:Run)(N:Nat)(a0 a1:List Int):qsy E R sg_Z85 pol_Z85 F_Z85 N [⟨(.sl (.int .u8)),a0⟩,⟨(.sl (.int .u8)),a1⟩]=(bif (decide ((List.length a0:Int)>(1048576:Int))) then some ⟨o_Z85,(true,())⟩ else some ⟨o_Z85,((decide ((List.length a1:Int)>(1048576:Int))),())⟩):=by kernel_rfl
theorem Z124.ev(R:Run)(N:Nat)(a0:List Int):qsy E R sg_Z124 pol_Z124 F_Z124 N [⟨(.sl (.int .u8)),a0⟩]=some ⟨o_Z124,((a0,(0:Int),(0:Int),()),())⟩:=by kernel_rfl
def Z132.j0(R:Run)(N:Nat)(a:Int)(b:List Int)(e f:Int):Option Dv:=R.w (some ⟨(.c (.box 62 0)::(V.dead::(V.dead::(.c (.d yI a)::(zd 58 []))))),(zo 62 (some (.box [.d (.sl (.int .u8)) b,.d yI e,.d (.int .u64) f] false true)::[]))⟩) fun st=>eC R pol_Z132 N [1,1,1] F_Z132 st (qs4 E sg_Z132 F_Z132)
theorem Z132.j0_eq(R:Run)(hw:R.ok)(N:Nat)(a:Int)(b:List Int)(c d:Int):Z132.j0 R N a b c d=(bif (decide ((w64 (c+1))≤(List.length b:Int))) then some ⟨o_Z132,(a,(b,(w64 (c+1)),(IntKind.wrap .u64 ((IntKind.wrap .u64 ((IntKind.wrap .u64 (d*(6364136223846793005:Int)))+(IntKind.wrap .u64 (a))))+(1442695040888963407:Int))),()),())⟩ else((chk (decide (0≤(40:Int)))).bind fun _=>some ⟨o_Z132,((w64 ((IntKind.wrap .u64 (BitVec.toNat (BitVec.ofInt (IntKind.bits .u64) (Int.fdiv (IntKind.wrap .u64 ((IntKind.wrap .u64 ((IntKind.wrap .u64 (d*(6364136223846793005:Int)))+(IntKind.wrap .u64 (a))))+(1442695040888963407:Int))) (2 ^ (min (Int.toNat (40:Int)) (IntKind.bits .u64)))) &&& BitVec.ofInt (IntKind.bits .u64) (255:Int)))))),(b,(w64 (c+1)),(IntKind.wrap .u64 ((IntKind.wrap .u64 ((IntKind.wrap .u64 (d*(6364136223846793005:Int)))+(IntKind.wrap .u64 (a))))+(1442695040888963407:Int))),()),())⟩)):=(hw _ _).trans (by kernel_rfl)
theorem Z132.ev(R:Run)(N:Nat)(a0:((List Int)×Int×Int×Unit)):qsy E R sg_Z132 pol_Z132 F_Z132 N [⟨(.ptr yR),a0⟩]=(bif (decide (a0.2.1<(List.length a0.1:Int))) then((idx? a0.1 a0.2.1).bind fun y1=>(Z132.j0 R N (w64 ((y1,()).1)) a0.1 a0.2.1 a0.2.2.1)) else(Z132.j0 R N (0:Int) a0.1 a0.2.1 a0.2.2.1)):=by kernel_rfl
theorem Z134.ev(R:Run)(N:Nat)(a0:((List Int)×Int×Int×Unit))(a1:Int):qsy E R sg_Z134 pol_Z134 F_Z134 N [⟨(.ptr yR),a0⟩,⟨yI,a1⟩]=(bif (decide (a1≤(1:Int))) then some ⟨o_Z134,((0:Int),(a0.1,a0.2.1,a0.2.2.1,()),())⟩ else((qgg R n_Z132 o_Z132 [⟨(.ptr yR),(a0.1,a0.2.1,a0.2.2.1,())⟩]).bind fun r1=>(bif (decide (a1>(200:Int))) then((qgg R n_Z132 o_Z132 [⟨(.ptr yR),(r1.2.1.1,r1.2.1.2.1,r1.2.1.2.2.1,())⟩]).bind fun r2=>((chk (a1 != 0)).bind fun _=>some ⟨o_Z134,((Int.tmod (w64 ((w64 (r1.1*(256:Int)))+r2.1)) a1),(r2.2.1.1,r2.2.1.2.1,r2.2.1.2.2.1,()),())⟩)) else((chk (a1 != 0)).bind fun _=>some ⟨o_Z134,((Int.tmod r1.1 a1),(r1.2.1.1,r1.2.1.2.1,r1.2.1.2.2.1,()),())⟩)))):=by kernel_rfl
def Z130.l0(R:Run)(N n:Nat)(a b:List Int)(e:Int):Option Dv:=R.w (some ⟨(.c (.d yL a)::(.c (.d yL b)::(zd 3 (.c (.d yI e)::(zd 20 []))))),(zo 28 [])⟩) fun st=>lC R pol_Z130 4 N [1,1,0,1,0,0] F_Z130 n st (kB R pol_Z130 0 (kS R pol_Z130 8 N [1,1,1] F_Z130 (qs4 E sg_Z130 F_Z130)))
theorem Z130.l0_succ(R:Run)(hw:R.ok)(N n:Nat)(a b:List Int)(c:Int):Z130.l0 R N (n+1) a b c=(bif (decide (c<(List.length a:Int))) then((idx? a c).bind fun y4=>((idx? b c).bind fun y5=>(bif ((y4,()).1 != (y5,()).1) then some ⟨o_Z130,(false,())⟩ else(Z130.l0 R N n a b (w64 (c+1)))))) else some ⟨o_Z130,(true,())⟩):=(hw _ _).trans (by kernel_rfl)
theorem Z130.ev(R:Run)(N:Nat)(a0 a1:List Int):qsy E R sg_Z130 pol_Z130 F_Z130 N [⟨yL,a0⟩,⟨yL,a1⟩]=(bif ((List.length a0:Int) != (List.length a1:Int)) then some ⟨o_Z130,(false,())⟩ else(Z130.l0 R N N a0 a1 (0:Int))):=by kernel_rfl
def Z155.l0(R:Run)(N n:Nat)(a:(vK×Unit))(b:List Int)(e:Int):Option Dv:=R.w (some ⟨(.c (.ip yC a 0)::(.c (.d yL b)::(zd 3 (.c (.d yI e)::(zd 19 []))))),(zo 27 [])⟩) fun st=>lC R pol_Z155 2 N [1,0,1,0,0] F_Z155 n st (kB R pol_Z155 0 (kS R pol_Z155 6 N [1,1] F_Z155 (qs4 E sg_Z155 F_Z155)))
theorem Z155.l0_succ(R:Run)(hw:R.ok)(N n:Nat)(a:(vK×Unit))(b:List Int)(c:Int):Z155.l0 R N (n+1) a b c=(bif (decide (c<(List.length a.1:Int))) then((idx? a.1 c).bind fun y4=>((qgg R n_Z130 o_Z130 [⟨yL,(y4,()).1⟩,⟨yL,b⟩]).bind fun r5=>(bif r5.1 then some ⟨o_Z155,(c,())⟩ else(Z155.l0 R N n a b (w64 (c+1)))))) else some ⟨o_Z155,((-1:Int),())⟩):=(hw _ _).trans (by kernel_rfl)
theorem Z155.ev(R:Run)(N:Nat)(a0:(vK×Unit))(a1:List Int):qsy E R sg_Z155 pol_Z155 F_Z155 N [⟨(.ptr yC),a0⟩,⟨yL,a1⟩]=(Z155.l0 R N N a0 a1 (0:Int)):=by kernel_rfl
theorem Z127.ev(R:Run)(N:Nat)(a0:List Int):qsy E R sg_Z127 pol_Z127 F_Z127 N [⟨yL,a0⟩]=((chk (decide ((List.length ([]:List Int)+List.length a0)*8≤70368744177664))).bind fun _=>some ⟨o_Z127,((([]:List Int)++a0),())⟩):=by kernel_rfl
theorem Z153.ev(R:Run)(N:Nat)(a0:List Int)(a1:Int):qsy E R sg_Z153 pol_Z153 F_Z153 N [⟨yL,a0⟩,⟨yI,a1⟩]=((chk (decide (0≤a1)&&decide (a1≤(List.length a0:Int)))).bind fun _=>((qgg R n_Z127 o_Z127 [⟨yL,(List.take (Int.toNat a1) a0)⟩]).bind fun r1=>((chk (decide (0≤(w64 (a1+1)))&&decide ((w64 (a1+1))≤(List.length a0:Int)))).bind fun _=>((chk (decide ((List.length r1.1+List.length (List.drop (Int.toNat (w64 (a1+1))) a0))*8≤70368744177664))).bind fun _=>some ⟨o_Z153,((r1.1++(List.drop (Int.toNat (w64 (a1+1))) a0)),())⟩)))):=by kernel_rfl
def Z150.l0(R:Run)(N n:Nat)(a b:List Int)(e:Int):Option Dv:=R.w (some ⟨(.c (.d yL a)::(.c (.d yL b)::(zd 3 (.c (.d yI e)::(zd 34 []))))),(zo 42 [])⟩) fun st=>lC R pol_Z150 4 N [1,1,0,1,0,0] F_Z150 n st (kB R pol_Z150 0 (kS R pol_Z150 8 N [1,1,1] F_Z150 (qs4 E sg_Z150 F_Z150)))
theorem Z150.l0_succ(R:Run)(hw:R.ok)(N n:Nat)(a b:List Int)(c:Int):Z150.l0 R N (n+1) a b c=(bif (decide (c<(List.length a:Int))) then((idx? a c).bind fun y4=>((idx? b c).bind fun y5=>(bif ((y4,()).1 != (y5,()).1) then((idx? a c).bind fun y6=>((idx? b c).bind fun y7=>some ⟨o_Z150,((decide ((y6,()).1<(y7,()).1)),())⟩)) else(Z150.l0 R N n a b (w64 (c+1)))))) else some ⟨o_Z150,(false,())⟩):=(hw _ _).trans (by kernel_rfl)
theorem Z150.ev(R:Run)(N:Nat)(a0 a1:List Int):qsy E R sg_Z150 pol_Z150 F_Z150 N [⟨yL,a0⟩,⟨yL,a1⟩]=(bif ((List.length a0:Int) != (List.length a1:Int)) then some ⟨o_Z150,((decide ((List.length a0:Int)<(List.length a1:Int))),())⟩ else(Z150.l0 R N N a0 a1 (0:Int))):=by kernel_rfl
def Z158.j3(R:Run)(N a:Nat)(b:List Int)(e:Int)(f:Bool)(g:vK):Option Dv:=R.w (some ⟨(.c (.box 71 0)::(.c (.d yL b)::(zd 3 (.c (.d yI e)::(zd 38 (.c (.d .bool f)::(zd 26 []))))))),(zo 71 (some (.box [.arr 73] false true)::(none::(some (.arr yL g false false false)::(none::(none::[]))))))⟩) fun st=>eC R pol_Z158 N [1,1,1,0,0,0,0,1] F_Z158 st (kS R pol_Z158 7 N [1,1,1,0,0,0,1] F_Z158 (kL R pol_Z158 6 N [1,1,1,0,0,0] F_Z158 a (kB R pol_Z158 2 (kS R pol_Z158 8 N [1,1,1,1] F_Z158 (qs4 E sg_Z158 F_Z158)))))
def Z158.l2(R:Run)(N n:Nat)(a:List Int)(b:Int)(e:vK):Option Dv:=R.w (some ⟨(.c (.box 71 0)::(.c (.d yL a)::(zd 3 (.c (.d yI b)::(zd 65 []))))),(zo 71 (some (.box [.arr 73] false true)::(none::(some (.arr yL e false false false)::(none::(none::[]))))))⟩) fun st=>lC R pol_Z158 6 N [1,1,1,0,0,0] F_Z158 n st (kB R pol_Z158 2 (kS R pol_Z158 8 N [1,1,1,1] F_Z158 (qs4 E sg_Z158 F_Z158)))
def Z158.j1(R:Run)(N a:Nat)(b:List Int)(e:Int)(f:Bool)(g:vK):Option Dv:=R.w (some ⟨(.c (.box 71 0)::(.c (.d yL b)::(V.dead::(V.dead::(.c (.d yI e)::(zd 14 (.c (.d .bool f)::(zd 51 [])))))))),(zo 71 (some (.box [.arr 73] false true)::(none::(some (.arr yL g false false false)::(none::(none::[]))))))⟩) fun st=>eC R pol_Z158 N [1,0,1,0,0,0,1] F_Z158 st (kS R pol_Z158 4 N [1,0,1,0,0,1] F_Z158 (kL R pol_Z158 2 N [1,0,1,0,0] F_Z158 a (kB R pol_Z158 0 (kS R pol_Z158 5 N [1,1] F_Z158 (qs4 E sg_Z158 F_Z158)))))
def Z158.l0(R:Run)(N n:Nat)(a:List Int)(b:Int)(e:vK):Option Dv:=R.w (some ⟨(.c (.box 71 0)::(.c (.d yL a)::(V.dead::(V.dead::(.c (.d yI b)::(zd 66 [])))))),(zo 71 (some (.box [.arr 73] false true)::(none::(some (.arr yL e false false false)::(none::(none::[]))))))⟩) fun st=>lC R pol_Z158 2 N [1,0,1,0,0] F_Z158 n st (kB R pol_Z158 0 (kS R pol_Z158 5 N [1,1] F_Z158 (qs4 E sg_Z158 F_Z158)))
theorem Z158.j3_eq(R:Run)(hw:R.ok)(N a:Nat)(b:List Int)(c:Int)(d:Bool)(e:vK):Z158.j3 R N a b c d e=(bif d then(Z158.l2 R N a b (w64 (c+1)) e) else((chk (decide (0≤c)&&decide (c≤(List.length e:Int)))).bind fun _=>((chk (decide ((List.length ([]:List (List Int))+List.length (List.drop 0 (List.take (Int.toNat c) e)))*24≤70368744177664))).bind fun _=>((qgg R n_Z127 o_Z127 [⟨yL,b⟩]).bind fun r26=>((chk (decide ((List.length (([]:List (List Int))++(List.drop 0 (List.take (Int.toNat c) e)))+List.length [r26.1])*24≤70368744177664))).bind fun _=>((chk (decide (0≤c)&&decide (c≤(List.length e:Int)))).bind fun _=>((chk (decide ((List.length ((([]:List (List Int))++(List.drop 0 (List.take (Int.toNat c) e)))++[r26.1])+List.length (List.drop (Int.toNat c) (List.take (List.length e) e)))*24≤70368744177664))).bind fun _=>some ⟨o_Z158,(((((([]:List (List Int))++(List.drop 0 (List.take (Int.toNat c) e)))++[r26.1])++(List.drop (Int.toNat c) (List.take (List.length e) e))),()),())⟩))))))):=(hw _ _).trans (by kernel_rfl)
theorem Z158.l2_succ(R:Run)(hw:R.ok)(N n:Nat)(a:List Int)(b:Int)(c:vK):Z158.l2 R N (n+1) a b c=(bif (decide (b<(List.length c:Int))) then((chk (decide (0≤b)&&decide (b<(List.length c:Int)))).bind fun _=>(Option.bind (c)[(Int.toNat b)]? fun y17=>((qgg R n_Z150 o_Z150 [⟨yL,y17⟩,⟨yL,a⟩]).bind fun r18=>(Z158.j3 R N n a b r18.1 c)))) else(Z158.j3 R N n a b false c)):=(hw _ _).trans (by kernel_rfl)
theorem Z158.j1_eq(R:Run)(hw:R.ok)(N a:Nat)(b:List Int)(c:Int)(d:Bool)(e:vK):Z158.j1 R N a b c d e=(bif d then((qgg R n_Z153 o_Z153 [⟨yL,b⟩,⟨yI,c⟩]).bind fun r9=>((qgg R n_Z158 o_Z158 [⟨(.ptr yC),(e,())⟩,⟨yL,r9.1⟩]).bind fun r10=>(Z158.l0 R N a b (w64 (c+1)) r10.1.1))) else(Z158.l2 R N N b (0:Int) e)):=(hw _ _).trans (by kernel_rfl)
theorem Z158.l0_succ(R:Run)(hw:R.ok)(N n:Nat)(a:List Int)(b:Int)(c:vK):Z158.l0 R N (n+1) a b c=(bif (decide (b<(List.length a:Int))) then(Z158.j1 R N n a b (decide ((List.length a:Int)>(1:Int))) c) else(Z158.j1 R N n a b false c)):=(hw _ _).trans (by kernel_rfl)
theorem Z158.ev(R:Run)(N:Nat)(a0:(vK×Unit))(a1:List Int):qsy E R sg_Z158 pol_Z158 F_Z158 N [⟨(.ptr yC),a0⟩,⟨yL,a1⟩]=((qgg R n_Z155 o_Z155 [⟨(.ptr yC),(a0.1,())⟩,⟨yL,a1⟩]).bind fun r1=>(bif (decide (r1.1≥(0:Int))) then some ⟨o_Z158,((a0.1,()),())⟩ else(Z158.l0 R N N a1 (0:Int) a0.1))):=by kernel_rfl
def Z151.l0(R:Run)(N n:Nat)(a:vK)(b:Int)(e:vK):Option Dv:=R.w (some ⟨(.c (.d yK a)::(V.dead::(.c (.box 2 0)::(.c (.box 3 0)::(.c (.d yI b)::(zd 14 [])))))),(none::(none::(some (.box [.nils yL] false false)::(some (.box [.arr 5] false false)::(none::(some (.arr yL e false false false)::(zo 14 [])))))))⟩) fun st=>lC R pol_Z151 3 N [1,1,0,1,0,0] F_Z151 n st (kB R pol_Z151 0 (kS R pol_Z151 6 N [1,1,1] F_Z151 (qs4 E sg_Z151 F_Z151)))
theorem Z151.l0_succ(R:Run)(hw:R.ok)(N n:Nat)(a:vK)(b:Int)(c:vK):Z151.l0 R N (n+1) a b c=(bif (decide (b<(List.length a:Int))) then((idx? a b).bind fun y4=>((qgg R n_Z158 o_Z158 [⟨(.ptr yC),(c,())⟩,⟨yL,(y4,()).1⟩]).bind fun r5=>(Z151.l0 R N n a (w64 (b+1)) r5.1.1))) else some ⟨o_Z151,(c,())⟩):=(hw _ _).trans (by kernel_rfl)
theorem Z151.ev(R:Run)(N:Nat)(a0:vK):qsy E R sg_Z151 pol_Z151 F_Z151 N [⟨yK,a0⟩]=(Z151.l0 R N N a0 (0:Int) ([]:List (List Int))):=by kernel_rfl
def Z128.j2(R:Run)(N a:Nat)(b:List Int)(e:Int)(f:Bool)(g:Int)(h:List Int):Option Dv:=R.w (some ⟨(.c (.d yL b)::(.c (.d yI e)::(zd 3 (.c (.arr 8)::(.c (.d .bool f)::(.c (.d yI g)::(zd 41 []))))))),(zo 8 (some (.arr yI h true false false)::(zo 42 [])))⟩) fun st=>eC R pol_Z128 N [1,1,1,0,1,0,0,1,0,0,1] F_Z128 st (kB R pol_Z128 1 (kS R pol_Z128 5 N [1,1,1,0,1,0,0,1,1] F_Z128 (kL R pol_Z128 4 N [1,1,1,0,1,0,0] F_Z128 a (kB R pol_Z128 0 (q0_0 R N (qs4 E sg_Z128 F_Z128))))))
def Z128.j1(R:Run)(N a:Nat)(b:List Int)(e:Int)(f:Bool)(g:Int)(h:Bool)(i:List Int):Option Dv:=R.w (some ⟨(.c (.d yL b)::(.c (.d yI e)::(zd 3 (.c (.arr 8)::(.c (.d .bool f)::(.c (.d yI g)::(zd 16 (.c (.d .bool h)::(zd 24 []))))))))),(zo 8 (some (.arr yI i true false false)::(zo 42 [])))⟩) fun st=>eC R pol_Z128 N [1,1,1,0,1,0,0,1,0,0,0,1] F_Z128 st (kS R pol_Z128 10 N [1,1,1,0,1,0,0,1,0,0,1] F_Z128 (kB R pol_Z128 1 (kS R pol_Z128 5 N [1,1,1,0,1,0,0,1,1] F_Z128 (kL R pol_Z128 4 N [1,1,1,0,1,0,0] F_Z128 a (kB R pol_Z128 0 (q0_0 R N (qs4 E sg_Z128 F_Z128)))))))
def Z128.l0(R:Run)(N n:Nat)(a:List Int)(b:Int)(e:Bool)(f:Int)(g:List Int):Option Dv:=R.w (some ⟨(.c (.d yL a)::(.c (.d yI b)::(zd 3 (.c (.arr 8)::(.c (.d .bool e)::(.c (.d yI f)::(zd 41 []))))))),(zo 8 (some (.arr yI g true false false)::(zo 42 [])))⟩) fun st=>lC R pol_Z128 4 N [1,1,1,0,1,0,0] F_Z128 n st (kB R pol_Z128 0 (q0_0 R N (qs4 E sg_Z128 F_Z128)))
theorem Z128.j2_eq(R:Run)(hw:R.ok)(N a:Nat)(b:List Int)(c:Int)(d:Bool)(e:Int)(f:List Int):Z128.j2 R N a b c d e f=((idx? b e).bind fun y19=>((chk (decide ((List.length f+List.length [(y19,()).1])*8≤70368744177664))).bind fun _=>(Z128.l0 R N a b c d (w64 (e+1)) (f++[(y19,()).1])))):=(hw _ _).trans (by kernel_rfl)
theorem Z128.j1_eq(R:Run)(hw:R.ok)(N a:Nat)(b:List Int)(c:Int)(d:Bool)(e:Int)(f:Bool)(g:List Int):Z128.j1 R N a b c d e f g=(bif f then((idx? b e).bind fun y13=>(bif (decide ((y13,()).1>c)) then((chk (decide ((List.length g+List.length [c])*8≤70368744177664))).bind fun _=>(Z128.j2 R N a b c true e (g++[c]))) else(Z128.j2 R N a b c true e g))) else(Z128.j2 R N a b c d e g)):=(hw _ _).trans (by kernel_rfl)
theorem Z128.l0_succ(R:Run)(hw:R.ok)(N n:Nat)(a:List Int)(b:Int)(c:Bool)(d:Int)(e:List Int):Z128.l0 R N (n+1) a b c d e=(bif (decide (d<(List.length a:Int))) then(bif (!c) then((idx? a d).bind fun y6=>(Z128.j1 R N n a b c d (decide ((y6,()).1≥b)) e)) else(Z128.j1 R N n a b c d false e)) else(bif (!c) then((chk (decide ((List.length e+List.length [b])*8≤70368744177664))).bind fun _=>some ⟨o_Z128,((e++[b]),())⟩) else some ⟨o_Z128,(e,())⟩)):=(hw _ _).trans (by kernel_rfl)
theorem Z128.ev(R:Run)(N:Nat)(a0:List Int)(a1:Int):qsy E R sg_Z128 pol_Z128 F_Z128 N [⟨yL,a0⟩,⟨yI,a1⟩]=(Z128.l0 R N N a0 a1 false (0:Int) ([]:List Int)):=by kernel_rfl
def Z152.l0(R:Run)(N n:Nat)(a:Int)(b:List Int)(e:Int)(f:List Int)(g h:Int):Option Dv:=R.w (some ⟨(.c (.box 24 0)::(.c (.d yI a)::(zd 5 (.c (.d yL b)::(.c (.d yI e)::(zd 15 [])))))),(zo 24 (some (.box [.d (.sl (.int .u8)) f,.d yI g,.d (.int .u64) h] false true)::(none::(none::[]))))⟩) fun st=>lC R pol_Z152 3 N [1,1,0,1,0,0] F_Z152 n st (kB R pol_Z152 0 (kS R pol_Z152 6 N [1,1,1] F_Z152 (qs4 E sg_Z152 F_Z152)))
theorem Z152.l0_succ(R:Run)(hw:R.ok)(N n:Nat)(a:Int)(b:List Int)(c:Int)(d:List Int)(e f:Int):Z152.l0 R N (n+1) a b c d e f=(bif (decide (c>(0:Int))) then((qgg R n_Z134 o_Z134 [⟨(.ptr yR),(d,e,f,())⟩,⟨yI,a⟩]).bind fun r8=>((qgg R n_Z128 o_Z128 [⟨yL,b⟩,⟨yI,r8.1⟩]).bind fun r9=>(Z152.l0 R N n a r9.1 (w64 (c-1)) r8.2.1.1 r8.2.1.2.1 r8.2.1.2.2.1))) else some ⟨o_Z152,(b,(d,e,f,()),())⟩):=(hw _ _).trans (by kernel_rfl)
theorem Z152.ev(R:Run)(N:Nat)(a0:((List Int)×Int×Int×Unit))(a1 a2:Int):qsy E R sg_Z152 pol_Z152 F_Z152 N [⟨(.ptr yR),a0⟩,⟨yI,a1⟩,⟨yI,a2⟩]=((qgg R n_Z134 o_Z134 [⟨(.ptr yR),(a0.1,a0.2.1,a0.2.2.1,())⟩,⟨yI,a2⟩]).bind fun r1=>(Z152.l0 R N N a1 ([]:List Int) (w64 ((1:Int)+r1.1)) r1.2.1.1 r1.2.1.2.1 r1.2.1.2.2.1)):=by kernel_rfl
def Z165.l0(R:Run)(N n:Nat)(a:Int)(b:vK)(e:List Int)(f g:Int):Option Dv:=R.w (some ⟨(.c (.box 51 0)::(V.dead::(.c (.box 2 0)::(.c (.arr 37)::(.c (.d yI a)::(zd 46 [])))))),(none::(none::(some (.box [.nils yL] false false)::(zo 34 (some (.arr yL b false false false)::(zo 13 (some (.box [.d (.sl (.int .u8)) e,.d yI f,.d (.int .u64) g] false true)::(zo 5 []))))))))⟩) fun st=>lC R pol_Z165 12 N [1,1,1,0,1,0,0] F_Z165 n st (kB R pol_Z165 1 (kS R pol_Z165 15 N [1,1,1,1] F_Z165 (qs4 E sg_Z165 F_Z165)))
theorem Z165.l0_succ(R:Run)(hw:R.ok)(N n:Nat)(a:Int)(b:vK)(c:List Int)(d e:Int):Z165.l0 R N (n+1) a b c d e=(bif (decide (a>(0:Int))) then((qgg R n_Z152 o_Z152 [⟨(.ptr yR),(c,d,e,())⟩,⟨yI,(5:Int)⟩,⟨yI,(3:Int)⟩]).bind fun r12=>((chk (decide ((List.length b+List.length [r12.1])*24≤70368744177664))).bind fun _=>(Z165.l0 R N n (w64 (a-1)) (b++[r12.1]) r12.2.1.1 r12.2.1.2.1 r12.2.1.2.2.1))) else((qgg R n_Z151 o_Z151 [⟨yK,b⟩]).bind fun r18=>some ⟨o_Z165,(r18.1,(c,d,e,()),())⟩)):=(hw _ _).trans (by kernel_rfl)
theorem Z165.ev(R:Run)(N:Nat)(a0:((List Int)×Int×Int×Unit)):qsy E R sg_Z165 pol_Z165 F_Z165 N [⟨(.ptr yR),a0⟩]=((qgg R n_Z134 o_Z134 [⟨(.ptr yR),(a0.1,a0.2.1,a0.2.2.1,())⟩,⟨yI,(6:Int)⟩]).bind fun r1=>(bif (r1.1==(0:Int)) then((qgg R n_Z151 o_Z151 [⟨yK,[[(0:Int),(1:Int)],[(1:Int),(2:Int)],[(0:Int),(2:Int)]]⟩]).bind fun r2=>some ⟨o_Z165,(r2.1,(r1.2.1.1,r1.2.1.2.1,r1.2.1.2.2.1,()),())⟩) else(bif (r1.1==(1:Int)) then((qgg R n_Z151 o_Z151 [⟨yK,[[(0:Int),(1:Int),(2:Int)],[(1:Int),(2:Int),(3:Int)]]⟩]).bind fun r3=>some ⟨o_Z165,(r3.1,(r1.2.1.1,r1.2.1.2.1,r1.2.1.2.2.1,()),())⟩) else(bif (r1.1==(2:Int)) then((qgg R n_Z151 o_Z151 [⟨yK,[[(0:Int),(1:Int),(2:Int)],[(0:Int),(1:Int),(3:Int)],[(0:Int),(2:Int),(3:Int)],[(1:Int),(2:Int),(3:Int)]]⟩]).bind fun r4=>some ⟨o_Z165,(r4.1,(r1.2.1.1,r1.2.1.2.1,r1.2.1.2.2.1,()),())⟩) else(bif (r1.1==(3:Int)) then((qgg R n_Z151 o_Z151 [⟨yK,[[(0:Int),(1:Int)],[(1:Int),(2:Int)],[(2:Int),(3:Int)],[(0:Int),(3:Int)],[(1:Int),(3:Int)]]⟩]).bind fun r5=>some ⟨o_Z165,(r5.1,(r1.2.1.1,r1.2.1.2.1,r1.2.1.2.2.1,()),())⟩) else((qgg R n_Z134 o_Z134 [⟨(.ptr yR),(r1.2.1.1,r1.2.1.2.1,r1.2.1.2.2.1,())⟩,⟨yI,(4:Int)⟩]).bind fun r6=>(Z165.l0 R N N r6.1 ([]:List (List Int)) r6.2.1.1 r6.2.1.2.1 r6.2.1.2.2.1))))))):=by kernel_rfl
theorem Z131.ev(R:Run)(N:Nat)(a0:((List Int)×Int×Int×Unit))(a1:List Int):qsy E R sg_Z131 pol_Z131 F_Z131 N [⟨(.ptr yR),a0⟩,⟨yL,a1⟩]=((qgg R n_Z134 o_Z134 [⟨(.ptr yR),(a0.1,a0.2.1,a0.2.2.1,())⟩,⟨yI,(List.length a1:Int)⟩]).bind fun r1=>((idx? a1 r1.1).bind fun y2=>some ⟨o_Z131,((y2,()).1,(r1.2.1.1,r1.2.1.2.1,r1.2.1.2.2.1,()),())⟩)):=by kernel_rfl
def Z161.l0(R:Run)(N n:Nat)(a:(vK×Unit))(b e:Int)(f:vK):Option Dv:=R.w (some ⟨(.c (.ip yC a 0)::(.c (.d yI b)::(V.dead::(V.dead::(.c (.box 4 0)::(.c (.box 5 0)::(.c (.d yI e)::(zd 36 [])))))))),(zo 4 (some (.box [.nils yL] false false)::(some (.box [.arr 7] false false)::(none::(some (.arr yL f true false false)::(zo 38 []))))))⟩) fun st=>lC R pol_Z161 3 N [1,1,0,1,0,0] F_Z161 n st (kB R pol_Z161 0 (kS R pol_Z161 7 N [1,1,1] F_Z161 (qs4 E sg_Z161 F_Z161)))
theorem Z161.l0_succ(R:Run)(hw:R.ok)(N n:Nat)(a:(vK×Unit))(b c:Int)(d:vK):Z161.l0 R N (n+1) a b c d=(bif (decide (c<(List.length a.1:Int))) then((idx? a.1 c).bind fun y5=>(bif (decide ((List.length (y5,()).1:Int)≤(w64 (b+1)))) then((idx? a.1 c).bind fun y6=>((qgg R n_Z127 o_Z127 [⟨yL,(y6,()).1⟩]).bind fun r7=>((chk (decide ((List.length d+List.length [r7.1])*24≤70368744177664))).bind fun _=>(Z161.l0 R N n a b (w64 (c+1)) (d++[r7.1]))))) else(Z161.l0 R N n a b (w64 (c+1)) d))) else some ⟨o_Z161,(d,())⟩):=(hw _ _).trans (by kernel_rfl)
theorem Z161.ev(R:Run)(N:Nat)(a0:(vK×Unit))(a1:Int):qsy E R sg_Z161 pol_Z161 F_Z161 N [⟨(.ptr yC),a0⟩,⟨yI,a1⟩]=(Z161.l0 R N N a0 a1 (0:Int) ([]:List (List Int))):=by kernel_rfl
def Z154.j1(R:Run)(N a:Nat)(b:(vK×Unit))(e:List Int)(f:Int)(g:Bool)(h:List Int):Option Dv:=R.w (some ⟨(.c (.ip yC b 0)::(zd 4 (.c (.d yL e)::(.c (.arr 15)::(.c (.d yI f)::(zd 16 (.c (.d .bool g)::(zd 11 [])))))))),(zo 15 (some (.arr yI h true false false)::(zo 22 [])))⟩) fun st=>eC R pol_Z154 N [1,1,1,0,1,0,0,0,1] F_Z154 st (kS R pol_Z154 6 N [1,1,1,0,1,0,0,1] F_Z154 (kL R pol_Z154 4 N [1,1,1,0,1,0,0] F_Z154 a (kB R pol_Z154 0 (kS R pol_Z154 7 N [1,1,1,1] F_Z154 (qs4 E sg_Z154 F_Z154)))))
def Z154.l0(R:Run)(N n:Nat)(a:(vK×Unit))(b:List Int)(e:Int)(f:List Int):Option Dv:=R.w (some ⟨(.c (.ip yC a 0)::(zd 4 (.c (.d yL b)::(.c (.arr 15)::(.c (.d yI e)::(zd 28 [])))))),(zo 15 (some (.arr yI f true false false)::(zo 22 [])))⟩) fun st=>lC R pol_Z154 4 N [1,1,1,0,1,0,0] F_Z154 n st (kB R pol_Z154 0 (kS R pol_Z154 7 N [1,1,1,1] F_Z154 (qs4 E sg_Z154 F_Z154)))
theorem Z154.j1_eq(R:Run)(hw:R.ok)(N a:Nat)(b:(vK×Unit))(c:List Int)(d:Int)(e:Bool)(f:List Int):Z154.j1 R N a b c d e f=(bif e then((qgg R n_Z153 o_Z153 [⟨yL,c⟩,⟨yI,d⟩]).bind fun r11=>((qgg R n_Z155 o_Z155 [⟨(.ptr yC),b⟩,⟨yL,r11.1⟩]).bind fun r12=>((chk (decide ((List.length f+List.length [r12.1])*8≤70368744177664))).bind fun _=>(Z154.l0 R N a b c (w64 (d+1)) (f++[r12.1]))))) else some ⟨o_Z154,(f,())⟩):=(hw _ _).trans (by kernel_rfl)
theorem Z154.l0_succ(R:Run)(hw:R.ok)(N n:Nat)(a:(vK×Unit))(b:List Int)(c:Int)(d:List Int):Z154.l0 R N (n+1) a b c d=(bif (decide (c<(List.length b:Int))) then(Z154.j1 R N n a b c (decide ((List.length b:Int)>(1:Int))) d) else(Z154.j1 R N n a b c false d)):=(hw _ _).trans (by kernel_rfl)
theorem Z154.ev(R:Run)(N:Nat)(a0:(vK×Unit))(a1:Int):qsy E R sg_Z154 pol_Z154 F_Z154 N [⟨(.ptr yC),a0⟩,⟨yI,a1⟩]=((idx? a0.1 a1).bind fun y1=>(Z154.l0 R N N a0 ((y1,()).1) (0:Int) ([]:List Int))):=by kernel_rfl
theorem Z148.ev(R:Run)(N:Nat)(a0 a1 a2:Int):qsy E R sg_Z148 pol_Z148 F_Z148 N [⟨yI,a0⟩,⟨yI,a1⟩,⟨yI,a2⟩]=((chk (decide (0≤(w64 (a1*a2)))&&decide ((w64 (a1*a2))*8≤70368744177664))).bind fun _=>some ⟨o_Z148,(a0,a1,a2,(List.replicate (Int.toNat (w64 (a1*a2))) (0:Int)),())⟩):=by kernel_rfl
def Z168.l1(R:Run)(N a n:Nat)(b:(vK×Unit))(e:Int)(f:List Int)(g:Int)(h:List Int)(i j k:Int)(l:vN)(m:vK)(o:List Int):Option Dv:=R.w (some ⟨(.c (.ip yC b 0)::(.c (.d yI e)::(.c (.d yL f)::(zd 3 (.c (.box 6 0)::(.c (.box 7 0)::(.c (.d yI g)::(.c (.d yL h)::(.c (.d yI i)::(zd 44 [])))))))))),(zo 6 (some (.box [.nils yL,.d yI j,.nils yI,.nils (.st yM)] false false)::(some (.box [.arr 59,.d yI k,.arr 60,.arr 16] false false)::(zo 8 (some (.arr (.st yM) l true false false)::(zo 42 (some (.arr yL m true false false)::(some (.arr yI o true false false)::[]))))))))⟩) fun st=>lC R pol_Z168 7 N [1,1,0,1,0,0,1,0,0,1,1,0,0] F_Z168 n st (kB R pol_Z168 2 (kB R pol_Z168 1 (kS R pol_Z168 4 N [1,1,0,1,0,0,1,1] F_Z168 (kL R pol_Z168 3 N [1,1,0,1,0,0] F_Z168 a (kB R pol_Z168 0 (kS R pol_Z168 10 N [1,1,1] F_Z168 (qs4 E sg_Z168 F_Z168)))))))
def Z168.l0(R:Run)(N n:Nat)(a:(vK×Unit))(b:Int)(e:List Int)(f g h:Int)(i:vN)(j:vK)(k:List Int):Option Dv:=R.w (some ⟨(.c (.ip yC a 0)::(.c (.d yI b)::(.c (.d yL e)::(zd 3 (.c (.box 6 0)::(.c (.box 7 0)::(.c (.d yI f)::(zd 46 [])))))))),(zo 6 (some (.box [.nils yL,.d yI g,.nils yI,.nils (.st yM)] false false)::(some (.box [.arr 59,.d yI h,.arr 60,.arr 16] false false)::(zo 8 (some (.arr (.st yM) i true false false)::(zo 42 (some (.arr yL j true false false)::(some (.arr yI k true false false)::[]))))))))⟩) fun st=>lC R pol_Z168 3 N [1,1,0,1,0,0] F_Z168 n st (kB R pol_Z168 0 (kS R pol_Z168 10 N [1,1,1] F_Z168 (qs4 E sg_Z168 F_Z168)))
theorem Z168.l1_succ(R:Run)(hw:R.ok)(N a n:Nat)(b:(vK×Unit))(c:Int)(d:List Int)(e:Int)(f:List Int)(g h i:Int)(j:vN)(k:vK)(l:List Int):Z168.l1 R N a (n+1) b c d e f g h i j k l=(bif (decide (g<(List.length f:Int))) then((idx? d e).bind fun y24=>((idx? f g).bind fun y25=>((idx? d (y25,()).1).bind fun y26=>((qgg R n_Z148 o_Z148 [⟨yI,c⟩,⟨yI,(y24,()).1⟩,⟨yI,(y26,()).1⟩]).bind fun r27=>((chk (decide ((List.length j+List.length [(r27.1,r27.2.1,r27.2.2.1,r27.2.2.2.1,())])*48≤70368744177664))).bind fun _=>(Z168.l1 R N a n b c d e f (w64 (g+1)) h i (j++[(r27.1,r27.2.1,r27.2.2.1,r27.2.2.2.1,())]) k l)))))) else(Z168.l0 R N a b c d (w64 (e+1)) h i j k l)):=(hw _ _).trans (by kernel_rfl)
theorem Z168.l0_succ(R:Run)(hw:R.ok)(N n:Nat)(a:(vK×Unit))(b:Int)(c:List Int)(d e f:Int)(g:vN)(h:vK)(i:List Int):Z168.l0 R N (n+1) a b c d e f g h i=(bif (decide (d<(List.length a.1:Int))) then((qgg R n_Z154 o_Z154 [⟨(.ptr yC),a⟩,⟨yI,d⟩]).bind fun r12=>(Z168.l1 R N n N a b c d r12.1 (0:Int) e f g h i)) else some ⟨o_Z168,(h,f,i,g,())⟩):=(hw _ _).trans (by kernel_rfl)
theorem Z168.ev(R:Run)(N:Nat)(a0:(vK×Unit))(a1:Int)(a2:List Int):qsy E R sg_Z168 pol_Z168 F_Z168 N [⟨(.ptr yC),a0⟩,⟨yI,a1⟩,⟨yL,a2⟩]=((qgg R n_Z161 o_Z161 [⟨(.ptr yC),a0⟩,⟨yI,(3:Int)⟩]).bind fun r1=>((qgg R n_Z127 o_Z127 [⟨yL,a2⟩]).bind fun r2=>(Z168.l0 R N N a0 a1 a2 (0:Int) (0:Int) a1 ([]:List vM) r1.1 r2.1))):=by kernel_rfl
def Z147.l0(R:Run)(N n:Nat)(a b e f g h i j:Int)(k:List Int):Option Dv:=R.w (some ⟨(V.dead::(.c (.d yI a)::(V.dead::(V.dead::(.c (.box 4 0)::(.c (.box 5 0)::(.c (.d yI b)::(zd 18 [])))))))),(zo 4 (some (.box [.d yI e,.d yI f,.d yI g,.nils yI] false false)::(some (.box [.d yI h,.d yI i,.d yI j,.arr 27] false false)::(zo 21 (some (.arr yI k true false false)::[])))))⟩) fun st=>lC R pol_Z147 3 N [1,1,0,1,0,0] F_Z147 n st (kB R pol_Z147 0 (kS R pol_Z147 6 N [1,1,1] F_Z147 (qs4 E sg_Z147 F_Z147)))
theorem Z147.l0_succ(R:Run)(hw:R.ok)(N n:Nat)(a b c d e f g h:Int)(i:List Int):Z147.l0 R N (n+1) a b c d e f g h i=(bif (decide (b<a)) then((chk (decide (0≤(w64 ((w64 (b*a))+b)))&&decide ((w64 ((w64 (b*a))+b))<(List.length i:Int)))).bind fun _=>(Z147.l0 R N n a (w64 (b+1)) c d e f g h (List.set i (Int.toNat (w64 ((w64 (b*a))+b))) (1:Int)))) else some ⟨o_Z147,(f,g,h,i,())⟩):=(hw _ _).trans (by kernel_rfl)
theorem Z147.ev(R:Run)(N:Nat)(a0 a1:Int):qsy E R sg_Z147 pol_Z147 F_Z147 N [⟨yI,a0⟩,⟨yI,a1⟩]=((qgg R n_Z148 o_Z148 [⟨yI,a0⟩,⟨yI,a1⟩,⟨yI,a1⟩]).bind fun r1=>(Z147.l0 R N N a1 (0:Int) (0:Int) (0:Int) (0:Int) r1.1 r1.2.1 r1.2.2.1 r1.2.2.2.1)):=by kernel_rfl
def Z164.l1(R:Run)(N n:Nat)(a b e f g:Int)(h:vN)(i:vK)(j:List Int):Option Dv:=R.w (some ⟨(V.dead::(.c (.d yI a)::(.c (.d yI b)::(zd 3 (.c (.box 6 0)::(V.dead::(V.dead::(.c (.box 9 0)::(.c (.d yI e)::(zd 33 [])))))))))),(zo 6 (some (.box [.nils yL,.d yI f,.nils yI,.nils (.st yM)] false false)::(none::(none::(some (.box [.arr 49,.d yI g,.arr 50,.arr 47] false false)::(zo 37 (some (.arr (.st yM) h true false false)::(none::(some (.arr yL i true false false)::(some (.arr yI j true false false)::[]))))))))))⟩) fun st=>lC R pol_Z164 8 N [1,1,1,1,0,1,0,0] F_Z164 n st (kB R pol_Z164 2 (kS R pol_Z164 11 N [1,1,1,1,1] F_Z164 (qs4 E sg_Z164 F_Z164)))
def Z164.l0(R:Run)(N n:Nat)(a:(vK×Unit))(b e f g:Int)(h:List Int):Option Dv:=R.w (some ⟨(.c (.ip yC a 0)::(.c (.d yI b)::(.c (.d yI e)::(zd 3 (.c (.box 6 0)::(.c (.arr 11)::(.c (.d yI f)::(zd 35 [])))))))),(zo 6 (some (.box [.nils yL,.d yI g,.nils yI,.nils (.st yM)] false false)::(zo 4 (some (.arr yI h true false false)::(zo 39 [])))))⟩) fun st=>lC R pol_Z164 3 N [1,1,0,1,0,0] F_Z164 n st (kB R pol_Z164 0 (kS R pol_Z164 6 N [1,1,1] F_Z164 (qs4 E sg_Z164 F_Z164)))
theorem Z164.l1_succ(R:Run)(hw:R.ok)(N n:Nat)(a b c d e:Int)(f:vN)(g:vK)(h:List Int):Z164.l1 R N (n+1) a b c d e f g h=(bif (decide (c<(List.length f:Int))) then((qgg R n_Z147 o_Z147 [⟨yI,a⟩,⟨yI,b⟩]).bind fun r22=>((chk (decide (0≤c)&&decide (c<(List.length f:Int)))).bind fun _=>(Z164.l1 R N n a b (w64 (c+1)) d e (List.set f (Int.toNat c) (r22.1,r22.2.1,r22.2.2.1,r22.2.2.2.1,())) g h))) else some ⟨o_Z164,(g,e,h,f,())⟩):=(hw _ _).trans (by kernel_rfl)
theorem Z164.l0_succ(R:Run)(hw:R.ok)(N n:Nat)(a:(vK×Unit))(b c d e:Int)(f:List Int):Z164.l0 R N (n+1) a b c d e f=(bif (decide (d<(List.length a.1:Int))) then((chk (decide ((List.length f+List.length [c])*8≤70368744177664))).bind fun _=>(Z164.l0 R N n a b c (w64 (d+1)) e (f++[c]))) else((qgg R n_Z168 o_Z168 [⟨(.ptr yC),a⟩,⟨yI,b⟩,⟨yL,f⟩]).bind fun r13=>(Z164.l1 R N N b c (0:Int) e r13.2.1 r13.2.2.2.1 r13.1 r13.2.2.1))):=(hw _ _).trans (by kernel_rfl)
theorem Z164.ev(R:Run)(N:Nat)(a0:(vK×Unit))(a1 a2:Int):qsy E R sg_Z164 pol_Z164 F_Z164 N [⟨(.ptr yC),a0⟩,⟨yI,a1⟩,⟨yI,a2⟩]=(Z164.l0 R N N a0 a1 a2 (0:Int) (0:Int) ([]:List Int)):=by kernel_rfl
theorem Z133.ev(R:Run)(N:Nat)(a0:((List Int)×Int×Int×Unit))(a1:Int):qsy E R sg_Z133 pol_Z133 F_Z133 N [⟨(.ptr yR),a0⟩,⟨yI,a1⟩]=((qgg R n_Z134 o_Z134 [⟨(.ptr yR),(a0.1,a0.2.1,a0.2.2.1,())⟩,⟨yI,a1⟩]).bind fun r1=>some ⟨o_Z133,((r1.1==(0:Int)),(r1.2.1.1,r1.2.1.2.1,r1.2.1.2.2.1,()),())⟩):=by kernel_rfl
def Z138.j3(R:Run)(N:Nat)(a b e f g h:Int)(i:List Int)(j k:Int)(l:List Int):Option Dv:=R.w (some ⟨(zd 8 (.c (.box 8 0)::(.c (.box 9 0)::(zd 52 [])))),(zo 8 (some (.box [.d yI a,.d yI b,.d yI e,.nils yI] false false)::(some (.box [.d yI f,.d yI g,.d yI h,.arr 66] false false)::(zo 52 (some (.box [.d (.sl (.int .u8)) i,.d yI j,.d (.int .u64) k] false true)::(zo 3 (some (.arr yI l true false false)::[])))))))⟩) fun st=>eC R pol_Z138 N [1,1,1,1] F_Z138 st (qs4 E sg_Z138 F_Z138)
def Z138.l2(R:Run)(N n:Nat)(a b e f g h i j k l:Int)(m:List Int)(o p:Int)(q:List Int):Option Dv:=R.w (some ⟨(V.dead::(.c (.d yI a)::(.c (.d yI b)::(.c (.d yI e)::(zd 4 (.c (.box 8 0)::(.c (.box 9 0)::(V.dead::(.c (.d yI f)::(zd 50 [])))))))))),(zo 8 (some (.box [.d yI g,.d yI h,.d yI i,.nils yI] false false)::(some (.box [.d yI j,.d yI k,.d yI l,.arr 66] false false)::(zo 52 (some (.box [.d (.sl (.int .u8)) m,.d yI o,.d (.int .u64) p] false true)::(zo 3 (some (.arr yI q true false false)::[])))))))⟩) fun st=>lC R pol_Z138 9 N [1,1,1,0,1,0,1,0,0] F_Z138 n st (kB R pol_Z138 2 (kS R pol_Z138 12 N [1,1,1,1] F_Z138 (qs4 E sg_Z138 F_Z138)))
def Z138.j1(R:Run)(N:Nat)(a b e:Int)(f:Bool)(g h i j k l:Int)(m:List Int)(o p:Int)(q:List Int):Option Dv:=R.w (some ⟨(V.dead::(.c (.d yI a)::(.c (.d yI b)::(.c (.d yI e)::(zd 4 (.c (.box 8 0)::(.c (.box 9 0)::(zd 28 (.c (.d .bool f)::(zd 23 [])))))))))),(zo 8 (some (.box [.d yI g,.d yI h,.d yI i,.nils yI] false false)::(some (.box [.d yI j,.d yI k,.d yI l,.arr 66] false false)::(zo 52 (some (.box [.d (.sl (.int .u8)) m,.d yI o,.d (.int .u64) p] false true)::(zo 3 (some (.arr yI q true false false)::[])))))))⟩) fun st=>eC R pol_Z138 N [1,1,1,0,1] F_Z138 st (kS R pol_Z138 12 N [1,1,1,1] F_Z138 (qs4 E sg_Z138 F_Z138))
def Z138.l0(R:Run)(N n:Nat)(a b e f g h i j k l:Int)(m:List Int)(o p:Int)(q:List Int):Option Dv:=R.w (some ⟨(.c (.box 62 0)::(.c (.d yI a)::(.c (.d yI b)::(.c (.d yI e)::(zd 4 (.c (.box 8 0)::(.c (.box 9 0)::(.c (.d yI f)::(zd 51 []))))))))),(zo 8 (some (.box [.d yI g,.d yI h,.d yI i,.nils yI] false false)::(some (.box [.d yI j,.d yI k,.d yI l,.arr 66] false false)::(zo 52 (some (.box [.d (.sl (.int .u8)) m,.d yI o,.d (.int .u64) p] false true)::(zo 3 (some (.arr yI q true false false)::[])))))))⟩) fun st=>lC R pol_Z138 3 N [1,1,0,1,0,0] F_Z138 n st (kB R pol_Z138 0 (kS R pol_Z138 7 N [1,1,1] F_Z138 (qs4 E sg_Z138 F_Z138)))
theorem Z138.j3_eq(R:Run)(hw:R.ok)(N:Nat)(a b c d e f:Int)(g:List Int)(h i:Int)(j:List Int):Z138.j3 R N a b c d e f g h i j=some ⟨o_Z138,(d,e,f,j,(g,h,i,()),())⟩:=(hw _ _).trans (by kernel_rfl)
theorem Z138.l2_succ(R:Run)(hw:R.ok)(N n:Nat)(a b c d e f g h i j:Int)(k:List Int)(l m:Int)(o:List Int):Z138.l2 R N (n+1) a b c d e f g h i j k l m o=(bif (decide (d<c)) then((chk (decide (0≤d)&&decide (d<(List.length o:Int)))).bind fun _=>(Option.bind (o)[(Int.toNat d)]? fun y75=>((chk (a != 0)).bind fun _=>((chk (decide (0≤(w64 ((w64 ((w64 (b-1))*c))+d)))&&decide ((w64 ((w64 ((w64 (b-1))*c))+d))<(List.length o:Int)))).bind fun _=>(Z138.l2 R N n a b c (w64 (d+1)) e f g h i j k l m (List.set o (Int.toNat (w64 ((w64 ((w64 (b-1))*c))+d))) (Int.tmod (w64 (y75*(2:Int))) a))))))) else(Z138.j3 R N e f g h i j k l m o)):=(hw _ _).trans (by kernel_rfl)
theorem Z138.j1_eq(R:Run)(hw:R.ok)(N:Nat)(a b c:Int)(d:Bool)(e f g h i j:Int)(k:List Int)(l m:Int)(o:List Int):Z138.j1 R N a b c d e f g h i j k l m o=(bif d then(Z138.l2 R N N a b c (0:Int) e f g h i j k l m o) else(Z138.j3 R N e f g h i j k l m o)):=(hw _ _).trans (by kernel_rfl)
theorem Z138.l0_succ(R:Run)(hw:R.ok)(N n:Nat)(a b c d e f g h i j:Int)(k:List Int)(l m:Int)(o:List Int):Z138.l0 R N (n+1) a b c d e f g h i j k l m o=(bif (decide (d<(List.length o:Int))) then((qgg R n_Z134 o_Z134 [⟨(.ptr yR),(k,l,m,())⟩,⟨yI,(3:Int)⟩]).bind fun r16=>(bif (decide (r16.1>(0:Int))) then((qgg R n_Z134 o_Z134 [⟨(.ptr yR),(r16.2.1.1,r16.2.1.2.1,r16.2.1.2.2.1,())⟩,⟨yI,a⟩]).bind fun r17=>((chk (decide (0≤d)&&decide (d<(List.length o:Int)))).bind fun _=>(Z138.l0 R N n a b c (w64 (d+1)) e f g h i j r17.2.1.1 r17.2.1.2.1 r17.2.1.2.2.1 (List.set o (Int.toNat d) r17.1)))) else(Z138.l0 R N n a b c (w64 (d+1)) e f g h i j r16.2.1.1 r16.2.1.2.1 r16.2.1.2.2.1 o))) else(bif (decide (b>(1:Int))) then((qgg R n_Z133 o_Z133 [⟨(.ptr yR),(k,l,m,())⟩,⟨yI,(3:Int)⟩]).bind fun r46=>(Z138.j1 R N a b c r46.1 e f g h i j r46.2.1.1 r46.2.1.2.1 r46.2.1.2.2.1 o)) else(Z138.j1 R N a b c false e f g h i j k l m o))):=(hw _ _).trans (by kernel_rfl)
theorem Z138.ev(R:Run)(N:Nat)(a0:((List Int)×Int×Int×Unit))(a1 a2 a3:Int):qsy E R sg_Z138 pol_Z138 F_Z138 N [⟨(.ptr yR),a0⟩,⟨yI,a1⟩,⟨yI,a2⟩,⟨yI,a3⟩]=((qgg R n_Z148 o_Z148 [⟨yI,a1⟩,⟨yI,a2⟩,⟨yI,a3⟩]).bind fun r1=>(Z138.l0 R N N a1 a2 a3 (0:Int) (0:Int) (0:Int) (0:Int) r1.1 r1.2.1 r1.2.2.1 a0.1 a0.2.1 a0.2.2.1 r1.2.2.2.1)):=by kernel_rfl
def Z139.l0(R:Run)(N n:Nat)(a b e f:Int):Option Dv:=R.w (some ⟨(.c (.d yI a)::(.c (.d yI b)::(zd 3 (.c (.d yI e)::(.c (.d yI f)::(zd 12 [])))))),(zo 21 [])⟩) fun st=>lC R pol_Z139 3 N [1,1,0,1,0,0] F_Z139 n st (kB R pol_Z139 0 (kS R pol_Z139 6 N [1,1,1] F_Z139 (qs4 E sg_Z139 F_Z139)))
theorem Z139.l0_succ(R:Run)(hw:R.ok)(N n:Nat)(a b c d:Int):Z139.l0 R N (n+1) a b c d=(bif (decide (d>(0:Int))) then((chk (b != 0)).bind fun _=>(Z139.l0 R N n a b (Int.tmod (w64 (c*a)) b) (w64 (d-1)))) else some ⟨o_Z139,(c,())⟩):=(hw _ _).trans (by kernel_rfl)
theorem Z139.ev(R:Run)(N:Nat)(a0 a1:Int):qsy E R sg_Z139 pol_Z139 F_Z139 N [⟨yI,a0⟩,⟨yI,a1⟩]=(Z139.l0 R N N a0 a1 (1:Int) (w64 (a1-(2:Int)))):=by kernel_rfl
theorem Z141.ev(R:Run)(N:Nat)(a0 a1:Int):qsy E R sg_Z141 pol_Z141 F_Z141 N [⟨yI,a0⟩,⟨yI,a1⟩]=((chk (a1 != 0)).bind fun _=>((chk (a1 != 0)).bind fun _=>some ⟨o_Z141,((Int.tmod (w64 ((Int.tmod a0 a1)+a1)) a1),())⟩)):=by kernel_rfl
def Z144.l10(R:Run)(N a b n:Nat)(e:vM)(f g h i j k l m o p q r s t:Int)(u v:List Int):Option Dv:=R.w (some ⟨(.c (.ip yM e 0)::(V.dead::(.c (.box 2 0)::(V.dead::(V.dead::(.c (.box 5 0)::(.c (.d yI f)::(.c (.d yI g)::(.c (.arr 47)::(.c (.d yI h)::(.c (.d yI i)::(.c (.d yI j)::(zd 6 (.c (.d yI k)::(.c (.d yI l)::(.c (.d yI m)::(zd 225 []))))))))))))))))),(none::(none::(some (.box [.d yI o,.d yI p,.d yI q,.nils yI] false false)::(none::(none::(some (.box [.d yI r,.d yI s,.d yI t,.arr 247] false false)::(zo 41 (some (.arr yI u true false false)::(zo 199 (some (.arr yI v true false false)::[]))))))))))⟩) fun st=>lC R pol_Z144 35 N [1,1,1,1,1,1,1,0,1,0,0,1,0,0,1,1,1,1,1,1,1,1,0,1,0,0,1,0,0,1,1,1,0,0] F_Z144 n st (kB R pol_Z144 10 (kB R pol_Z144 9 (q0_1 R N (q0_6 R N b (kB R pol_Z144 8 (q0_2 R N (q0_8 R (q0_3 R N (q0_7 R N a (q0_9 R (q0_4 R N (qs4 E sg_Z144 F_Z144))))))))))))
def Z144.j9(R:Run)(N a b:Nat)(e:vM)(f g h i j k l:Int)(m:Bool)(o p q r s t:Int)(u v:List Int):Option Dv:=R.w (some ⟨(.c (.ip yM e 0)::(V.dead::(.c (.box 2 0)::(V.dead::(V.dead::(.c (.box 5 0)::(.c (.d yI f)::(.c (.d yI g)::(.c (.arr 47)::(.c (.d yI h)::(.c (.d yI i)::(.c (.d yI j)::(zd 6 (.c (.d yI k)::(.c (.d yI l)::(zd 180 (.c (.d .bool m)::(zd 45 [])))))))))))))))))),(none::(none::(some (.box [.d yI o,.d yI p,.d yI q,.nils yI] false false)::(none::(none::(some (.box [.d yI r,.d yI s,.d yI t,.arr 247] false false)::(zo 41 (some (.arr yI u true false false)::(zo 199 (some (.arr yI v true false false)::[]))))))))))⟩) fun st=>eC R pol_Z144 N [1,1,1,1,1,1,1,0,1,0,0,1,0,0,1,1,1,1,1,1,1,1,0,1,0,0,1,0,0,1,0,1] F_Z144 st (kS R pol_Z144 34 N [1,1,1,1,1,1,1,0,1,0,0,1,0,0,1,1,1,1,1,1,1,1,0,1,0,0,1,0,0,1,1] F_Z144 (kB R pol_Z144 9 (q0_1 R N (q0_6 R N b (kB R pol_Z144 8 (q0_2 R N (q0_8 R (q0_3 R N (q0_7 R N a (q0_9 R (q0_4 R N (qs4 E sg_Z144 F_Z144))))))))))))
def Z144.l8(R:Run)(N a n:Nat)(b:vM)(e f g h i j k l m o p q:Int)(r s:List Int):Option Dv:=R.w (some ⟨(.c (.ip yM b 0)::(V.dead::(.c (.box 2 0)::(V.dead::(V.dead::(.c (.box 5 0)::(.c (.d yI e)::(.c (.d yI f)::(.c (.arr 47)::(.c (.d yI g)::(.c (.d yI h)::(.c (.d yI i)::(zd 6 (.c (.d yI j)::(zd 227 []))))))))))))))),(none::(none::(some (.box [.d yI k,.d yI l,.d yI m,.nils yI] false false)::(none::(none::(some (.box [.d yI o,.d yI p,.d yI q,.arr 247] false false)::(zo 41 (some (.arr yI r true false false)::(zo 199 (some (.arr yI s true false false)::[]))))))))))⟩) fun st=>lC R pol_Z144 30 N [1,1,1,1,1,1,1,0,1,0,0,1,0,0,1,1,1,1,1,1,1,1,0,1,0,0] F_Z144 n st (kB R pol_Z144 8 (q0_2 R N (q0_8 R (q0_3 R N (q0_7 R N a (q0_9 R (q0_4 R N (qs4 E sg_Z144 F_Z144))))))))
def Z144.l7(R:Run)(N a n:Nat)(b:vM)(e f g h i j k l m o p q r:Int)(s t:List Int):Option Dv:=R.w (some ⟨(.c (.ip yM b 0)::(V.dead::(.c (.box 2 0)::(V.dead::(V.dead::(.c (.box 5 0)::(.c (.d yI e)::(.c (.d yI f)::(.c (.arr 47)::(.c (.d yI g)::(.c (.d yI h)::(.c (.d yI i)::(zd 4 (.c (.d yI j)::(.c (.d yI k)::(zd 228 [])))))))))))))))),(none::(none::(some (.box [.d yI l,.d yI m,.d yI o,.nils yI] false false)::(none::(none::(some (.box [.d yI p,.d yI q,.d yI r,.arr 247] false false)::(zo 41 (some (.arr yI s true false false)::(zo 199 (some (.arr yI t true false false)::[]))))))))))⟩) fun st=>lC R pol_Z144 26 N [1,1,1,1,1,1,1,0,1,0,0,1,0,0,1,1,1,1,1,1,1,0,1,0,0] F_Z144 n st (kB R pol_Z144 6 (kS R pol_Z144 29 N [1,1,1,1,1,1,1,0,1,0,0,1,0,0,1,1,1,1,1,1,1,1] F_Z144 (q0_8 R (q0_3 R N (q0_7 R N a (q0_9 R (q0_4 R N (qs4 E sg_Z144 F_Z144))))))))
def Z144.j6(R:Run)(N a:Nat)(b:vM)(e f g h i j k l m o p:Int)(q r:List Int):Option Dv:=R.w (some ⟨(.c (.ip yM b 0)::(V.dead::(.c (.box 2 0)::(V.dead::(V.dead::(.c (.box 5 0)::(.c (.d yI e)::(.c (.d yI f)::(.c (.arr 47)::(.c (.d yI g)::(.c (.d yI h)::(.c (.d yI i)::(zd 234 []))))))))))))),(none::(none::(some (.box [.d yI j,.d yI k,.d yI l,.nils yI] false false)::(none::(none::(some (.box [.d yI m,.d yI o,.d yI p,.arr 247] false false)::(zo 41 (some (.arr yI q true false false)::(zo 199 (some (.arr yI r true false false)::[]))))))))))⟩) fun st=>eC R pol_Z144 N [1,1,1,1,1,1,1,0,1,0,0,1,0,0,1,1,1,1] F_Z144 st (q0_8 R (q0_3 R N (q0_7 R N a (q0_9 R (q0_4 R N (qs4 E sg_Z144 F_Z144))))))
def Z144.l5(R:Run)(N a n:Nat)(b:vM)(e f g h i j k l m o p q r:Int)(s t:List Int):Option Dv:=R.w (some ⟨(.c (.ip yM b 0)::(V.dead::(.c (.box 2 0)::(V.dead::(V.dead::(.c (.box 5 0)::(.c (.d yI e)::(.c (.d yI f)::(.c (.arr 47)::(.c (.d yI g)::(.c (.d yI h)::(.c (.d yI i)::(.c (.d yI j)::(.c (.d yI k)::(zd 232 []))))))))))))))),(none::(none::(some (.box [.d yI l,.d yI m,.d yI o,.nils yI] false false)::(none::(none::(some (.box [.d yI p,.d yI q,.d yI r,.arr 247] false false)::(zo 41 (some (.arr yI s true false false)::(zo 199 (some (.arr yI t true false false)::[]))))))))))⟩) fun st=>lC R pol_Z144 17 N [1,1,1,1,1,1,1,0,1,0,0,1,0,0,1,1,1,0,1,0,1,1,0,0] F_Z144 n st (kB R pol_Z144 4 (kS R pol_Z144 22 N [1,1,1,1,1,1,1,0,1,0,0,1,0,0,1,1,1,1] F_Z144 (q0_8 R (q0_3 R N (q0_7 R N a (q0_9 R (q0_4 R N (qs4 E sg_Z144 F_Z144))))))))
def Z144.j4(R:Run)(N a b:Nat)(e:vM)(f g h i j k:Int)(l:Bool)(m o p q r s:Int)(t u:List Int):Option Dv:=R.w (some ⟨(.c (.ip yM e 0)::(V.dead::(.c (.box 2 0)::(V.dead::(V.dead::(.c (.box 5 0)::(.c (.d yI f)::(.c (.d yI g)::(.c (.arr 47)::(.c (.d yI h)::(.c (.d yI i)::(.c (.d yI j)::(.c (.d yI k)::(zd 66 (.c (.d .bool l)::(zd 166 [])))))))))))))))),(none::(none::(some (.box [.d yI m,.d yI o,.d yI p,.nils yI] false false)::(none::(none::(some (.box [.d yI q,.d yI r,.d yI s,.arr 247] false false)::(zo 41 (some (.arr yI t true false false)::(zo 199 (some (.arr yI u true false false)::[]))))))))))⟩) fun st=>eC R pol_Z144 N [1,1,1,1,1,1,1,0,1,0,0,1,0,0,1,0,0,0,0,1] F_Z144 st (kS R pol_Z144 12 N [1,1,1,1,1,1,1,0,1,0,0,1,0,0,1,0,0,0,1] F_Z144 (kL R pol_Z144 11 N [1,1,1,1,1,1,1,0,1,0,0,1,0,0,1,0,0,0] F_Z144 b (kB R pol_Z144 2 (q0_5 R N (q0_8 R (q0_3 R N (q0_7 R N a (q0_9 R (q0_4 R N (qs4 E sg_Z144 F_Z144))))))))))
def Z144.l3(R:Run)(N a n:Nat)(b:vM)(e f g h i j k l m o p q:Int)(r s:List Int):Option Dv:=R.w (some ⟨(.c (.ip yM b 0)::(V.dead::(.c (.box 2 0)::(V.dead::(V.dead::(.c (.box 5 0)::(.c (.d yI e)::(.c (.d yI f)::(.c (.arr 47)::(.c (.d yI g)::(.c (.d yI h)::(.c (.d yI i)::(.c (.d yI j)::(zd 233 [])))))))))))))),(none::(none::(some (.box [.d yI k,.d yI l,.d yI m,.nils yI] false false)::(none::(none::(some (.box [.d yI o,.d yI p,.d yI q,.arr 247] false false)::(zo 41 (some (.arr yI r true false false)::(zo 199 (some (.arr yI s true false false)::[]))))))))))⟩) fun st=>lC R pol_Z144 11 N [1,1,1,1,1,1,1,0,1,0,0,1,0,0,1,0,0,0] F_Z144 n st (kB R pol_Z144 2 (q0_5 R N (q0_8 R (q0_3 R N (q0_7 R N a (q0_9 R (q0_4 R N (qs4 E sg_Z144 F_Z144))))))))
def Z144.j2(R:Run)(N a:Nat)(b:vM)(e f g h i:Int)(j:Bool)(k l m o p q:Int)(r s:List Int):Option Dv:=R.w (some ⟨(.c (.ip yM b 0)::(V.dead::(.c (.box 2 0)::(V.dead::(V.dead::(.c (.box 5 0)::(.c (.d yI e)::(.c (.d yI f)::(.c (.arr 47)::(.c (.d yI g)::(.c (.d yI h)::(.c (.d yI i)::(zd 46 (.c (.d .bool j)::(zd 187 []))))))))))))))),(none::(none::(some (.box [.d yI k,.d yI l,.d yI m,.nils yI] false false)::(none::(none::(some (.box [.d yI o,.d yI p,.d yI q,.arr 247] false false)::(zo 41 (some (.arr yI r true false false)::(zo 199 (some (.arr yI s true false false)::[]))))))))))⟩) fun st=>eC R pol_Z144 N [1,1,1,1,1,1,1,0,1,0,0,0,1] F_Z144 st (kS R pol_Z144 10 N [1,1,1,1,1,1,1,0,1,0,0,1] F_Z144 (q0_7 R N a (q0_9 R (q0_4 R N (qs4 E sg_Z144 F_Z144)))))
def Z144.l1(R:Run)(N n:Nat)(a:vM)(b e f g h i j k l m o:Int)(p q:List Int):Option Dv:=R.w (some ⟨(.c (.ip yM a 0)::(V.dead::(.c (.box 2 0)::(V.dead::(V.dead::(.c (.box 5 0)::(.c (.d yI b)::(.c (.d yI e)::(.c (.arr 47)::(.c (.d yI f)::(.c (.d yI g)::(.c (.d yI h)::(zd 234 []))))))))))))),(none::(none::(some (.box [.d yI i,.d yI j,.d yI k,.nils yI] false false)::(none::(none::(some (.box [.d yI l,.d yI m,.d yI o,.arr 247] false false)::(zo 41 (some (.arr yI p true false false)::(zo 199 (some (.arr yI q true false false)::[]))))))))))⟩) fun st=>lC R pol_Z144 8 N [1,1,1,1,1,1,1,0,1,0,0] F_Z144 n st (q0_9 R (q0_4 R N (qs4 E sg_Z144 F_Z144)))
def Z144.j0(R:Run)(N:Nat)(a:vM)(b e f g h i:Int)(j:List Int):Option Dv:=R.w (some ⟨(.c (.ip yM a 0)::(V.dead::(.c (.box 2 0)::(V.dead::(V.dead::(.c (.box 5 0)::(zd 240 []))))))),(none::(none::(some (.box [.d yI b,.d yI e,.d yI f,.nils yI] false false)::(none::(none::(some (.box [.d yI g,.d yI h,.d yI i,.arr 247] false false)::(zo 241 (some (.arr yI j true false false)::[]))))))))⟩) fun st=>eC R pol_Z144 N [1,1] F_Z144 st (qs4 E sg_Z144 F_Z144)
theorem Z144.l10_succ(R:Run)(hw:R.ok)(N a b n:Nat)(c:vM)(d e f g h i j k l m o p q r:Int)(s t:List Int):Z144.l10 R N a b (n+1) c d e f g h i j k l m o p q r s t=(bif (decide (k<e)) then((chk (decide (0≤(w64 ((w64 (i*e))+k)))&&decide ((w64 ((w64 (i*e))+k))<(List.length t:Int)))).bind fun _=>(Option.bind (t)[(Int.toNat (w64 ((w64 (i*e))+k)))]? fun y248=>((chk (decide (0≤(w64 ((w64 (g*e))+k)))&&decide ((w64 ((w64 (g*e))+k))<(List.length t:Int)))).bind fun _=>(Option.bind (t)[(Int.toNat (w64 ((w64 (g*e))+k)))]? fun y249=>((qgg R n_Z141 o_Z141 [⟨yI,(w64 (y248-(w64 (j*y249))))⟩,⟨yI,d⟩]).bind fun r250=>((chk (decide (0≤(w64 ((w64 (i*e))+k)))&&decide ((w64 ((w64 (i*e))+k))<(List.length t:Int)))).bind fun _=>(Z144.l10 R N a b n c d e f g h i j (w64 (k+1)) l m o p q r s (List.set t (Int.toNat (w64 ((w64 (i*e))+k))) r250.1)))))))) else(Z144.l8 R N a b c d e f g h (w64 (i+1)) l m o p q r s t)):=(hw _ _).trans (by kernel_rfl)
theorem Z144.j9_eq(R:Run)(hw:R.ok)(N a b:Nat)(c:vM)(d e f g h i j:Int)(k:Bool)(l m o p q r:Int)(s t:List Int):Z144.j9 R N a b c d e f g h i j k l m o p q r s t=(bif k then(Z144.l8 R N a b c d e f g h (w64 (i+1)) l m o p q r s t) else(Z144.l10 R N a b N c d e f g h i j (0:Int) l m o p q r s t)):=(hw _ _).trans (by kernel_rfl)
theorem Z144.l8_succ(R:Run)(hw:R.ok)(N a n:Nat)(b:vM)(c d e f g h i j k l m o:Int)(p q:List Int):Z144.l8 R N a (n+1) b c d e f g h i j k l m o p q=(bif (decide (h<b.2.1)) then((chk (decide (0≤(w64 ((w64 (h*d))+g)))&&decide ((w64 ((w64 (h*d))+g))<(List.length q:Int)))).bind fun _=>(Option.bind (q)[(Int.toNat (w64 ((w64 (h*d))+g)))]? fun y198=>(bif (h==f) then(Z144.j9 R N a n b c d e f g h y198 true i j k l m o p q) else(Z144.j9 R N a n b c d e f g h y198 (y198==(0:Int)) i j k l m o p q)))) else((chk (decide ((List.length p+List.length [g])*8≤70368744177664))).bind fun _=>(Z144.l1 R N a b c d e (w64 (f+1)) (w64 (g+1)) i j k l m o (p++[g]) q))):=(hw _ _).trans (by kernel_rfl)
theorem Z144.l7_succ(R:Run)(hw:R.ok)(N a n:Nat)(b:vM)(c d e f g h i j k l m o p:Int)(q r:List Int):Z144.l7 R N a (n+1) b c d e f g h i j k l m o p q r=(bif (decide (i<d)) then((chk (decide (0≤(w64 ((w64 (f*d))+i)))&&decide ((w64 ((w64 (f*d))+i))<(List.length r:Int)))).bind fun _=>(Option.bind (r)[(Int.toNat (w64 ((w64 (f*d))+i)))]? fun y166=>((chk (c != 0)).bind fun _=>((chk (decide (0≤(w64 ((w64 (f*d))+i)))&&decide ((w64 ((w64 (f*d))+i))<(List.length r:Int)))).bind fun _=>(Z144.l7 R N a n b c d e f g h (w64 (i+1)) j k l m o p q (List.set r (Int.toNat (w64 ((w64 (f*d))+i))) (Int.tmod (w64 (y166*h)) c))))))) else(Z144.l8 R N a N b c d e f g (0:Int) j k l m o p q r)):=(hw _ _).trans (by kernel_rfl)
theorem Z144.j6_eq(R:Run)(hw:R.ok)(N a:Nat)(b:vM)(c d e f g h i j k l m:Int)(o p:List Int):Z144.j6 R N a b c d e f g h i j k l m o p=((chk (decide (0≤(w64 ((w64 (f*d))+g)))&&decide ((w64 ((w64 (f*d))+g))<(List.length p:Int)))).bind fun _=>(Option.bind (p)[(Int.toNat (w64 ((w64 (f*d))+g)))]? fun y148=>((chk (c != 0)).bind fun _=>((qgg R n_Z139 o_Z139 [⟨yI,y148⟩,⟨yI,c⟩]).bind fun r149=>(Z144.l7 R N a N b c d (Int.tmod (w64 (e*y148)) c) f g r149.1 (0:Int) h i j k l m o p))))):=(hw _ _).trans (by kernel_rfl)
theorem Z144.l5_succ(R:Run)(hw:R.ok)(N a n:Nat)(b:vM)(c d e f g h i j k l m o p:Int)(q r:List Int):Z144.l5 R N a (n+1) b c d e f g h i j k l m o p q r=(bif (decide (i<d)) then((chk (decide (0≤(w64 ((w64 (h*d))+i)))&&decide ((w64 ((w64 (h*d))+i))<(List.length r:Int)))).bind fun _=>(Option.bind (r)[(Int.toNat (w64 ((w64 (h*d))+i)))]? fun y116=>((chk (decide (0≤(w64 ((w64 (f*d))+i)))&&decide ((w64 ((w64 (f*d))+i))<(List.length r:Int)))).bind fun _=>(Option.bind (r)[(Int.toNat (w64 ((w64 (f*d))+i)))]? fun y117=>((chk (decide (0≤(w64 ((w64 (h*d))+i)))&&decide ((w64 ((w64 (h*d))+i))<(List.length r:Int)))).bind fun _=>((chk (decide (0≤(w64 ((w64 (f*d))+i)))&&decide ((w64 ((w64 (f*d))+i))<(List.length (List.set r (Int.toNat (w64 ((w64 (h*d))+i))) y117):Int)))).bind fun _=>(Z144.l5 R N a n b c d e f g h (w64 (i+1)) j k l m o p q (List.set (List.set r (Int.toNat (w64 ((w64 (h*d))+i))) y117) (Int.toNat (w64 ((w64 (f*d))+i))) y116)))))))) else(Z144.j6 R N a b c d e f g j k l m o p q r)):=(hw _ _).trans (by kernel_rfl)
theorem Z144.j4_eq(R:Run)(hw:R.ok)(N a b:Nat)(c:vM)(d e f g h i:Int)(j:Bool)(k l m o p q:Int)(r s:List Int):Z144.j4 R N a b c d e f g h i j k l m o p q r s=(bif j then(Z144.l3 R N a b c d e f g h (w64 (i+1)) k l m o p q r s) else(bif (i==c.2.1) then(Z144.l1 R N a c d e f g (w64 (h+1)) k l m o p q r s) else(bif (i != g) then(Z144.l5 R N a N c d e (w64 (d-f)) g h i (0:Int) k l m o p q r s) else(Z144.j6 R N a c d e f g h k l m o p q r s)))):=(hw _ _).trans (by kernel_rfl)
theorem Z144.l3_succ(R:Run)(hw:R.ok)(N a n:Nat)(b:vM)(c d e f g h i j k l m o:Int)(p q:List Int):Z144.l3 R N a (n+1) b c d e f g h i j k l m o p q=(bif (decide (h<b.2.1)) then((chk (decide (0≤(w64 ((w64 (h*d))+g)))&&decide ((w64 ((w64 (h*d))+g))<(List.length q:Int)))).bind fun _=>(Option.bind (q)[(Int.toNat (w64 ((w64 (h*d))+g)))]? fun y54=>(Z144.j4 R N a n b c d e f g h (y54==(0:Int)) i j k l m o p q))) else(Z144.j4 R N a n b c d e f g h false i j k l m o p q)):=(hw _ _).trans (by kernel_rfl)
theorem Z144.j2_eq(R:Run)(hw:R.ok)(N a:Nat)(b:vM)(c d e f g:Int)(h:Bool)(i j k l m o:Int)(p q:List Int):Z144.j2 R N a b c d e f g h i j k l m o p q=(bif h then(Z144.l3 R N a N b c d e f g f i j k l m o p q) else some ⟨o_Z144,(l,m,o,q,p,e,())⟩):=(hw _ _).trans (by kernel_rfl)
theorem Z144.l1_succ(R:Run)(hw:R.ok)(N n:Nat)(a:vM)(b c d e f g h i j k l:Int)(m o:List Int):Z144.l1 R N (n+1) a b c d e f g h i j k l m o=(bif (decide (f<c)) then(Z144.j2 R N n a b c d e f (decide (e<a.2.1)) g h i j k l m o) else(Z144.j2 R N n a b c d e f false g h i j k l m o)):=(hw _ _).trans (by kernel_rfl)
theorem Z144.j0_eq(R:Run)(hw:R.ok)(N:Nat)(a:vM)(b c d e f g:Int)(h:List Int):Z144.j0 R N a b c d e f g h=(Z144.l1 R N N a a.1 a.2.2.1 (1:Int) (0:Int) (0:Int) b c d e f g ([]:List Int) h):=(hw _ _).trans (by kernel_rfl)
theorem Z144.ev(R:Run)(N:Nat)(a0:vM):qsy E R sg_Z144 pol_Z144 F_Z144 N [⟨(.ptr yM),a0⟩]=(qpQ ((qgg R n_Z127 o_Z127 [⟨yL,a0.2.2.2.1⟩]).bind fun r1=>(Z144.j0 R N a0 (0:Int) (0:Int) (0:Int) a0.1 a0.2.1 a0.2.2.1 r1.1)) ((qgg R n_Z127 o_Z127 [⟨yL,a0.2.2.2.1⟩]).bind fun r359=>(Z144.j0 R N a0 (0:Int) (0:Int) (0:Int) a0.1 a0.2.1 a0.2.2.1 r359.1))):=by kernel_rfl
theorem Z143.ev(R:Run)(N:Nat)(a0:vM):qsy E R sg_Z143 pol_Z143 F_Z143 N [⟨(.ptr yM),a0⟩]=((qgg R n_Z144 o_Z144 [⟨(.ptr yM),a0⟩]).bind fun r1=>some ⟨o_Z143,((List.length r1.2.2.2.2.1:Int),())⟩):=by kernel_rfl
def Z167.l1(R:Run)(N a n:Nat)(b e f g h i j k l m:Int)(o:List Int)(p q:Int)(r:List Int):Option Dv:=R.w (some ⟨(.c (.box 60 0)::(.c (.d yI b)::(.c (.d yI e)::(zd 3 (.c (.box 6 0)::(V.dead::(.c (.box 8 0)::(.c (.d yI f)::(.c (.d yI g)::(zd 49 [])))))))))),(zo 6 (some (.box [.d yI h,.d yI i,.d yI j,.nils yI] false false)::(none::(some (.box [.d yI k,.d yI l,.d yI m,.arr 64] false false)::(zo 51 (some (.box [.d (.sl (.int .u8)) o,.d yI p,.d (.int .u64) q] false true)::(zo 3 (some (.arr yI r true false false)::[]))))))))⟩) fun st=>lC R pol_Z167 10 N [1,1,1,1,0,1,0,0,1,0,0,1,1,0,0] F_Z167 n st (kB R pol_Z167 2 (kB R pol_Z167 1 (kS R pol_Z167 7 N [1,1,1,1,0,1,0,0,1,1] F_Z167 (kL R pol_Z167 6 N [1,1,1,1,0,1,0,0] F_Z167 a (kB R pol_Z167 0 (kS R pol_Z167 13 N [1,1,1,1,1] F_Z167 (qs4 E sg_Z167 F_Z167)))))))
def Z167.l0(R:Run)(N n:Nat)(a b e f g h i j k:Int)(l:List Int)(m o:Int)(p:List Int):Option Dv:=R.w (some ⟨(.c (.box 60 0)::(.c (.d yI a)::(.c (.d yI b)::(zd 3 (.c (.box 6 0)::(V.dead::(.c (.box 8 0)::(.c (.d yI e)::(zd 50 []))))))))),(zo 6 (some (.box [.d yI f,.d yI g,.d yI h,.nils yI] false false)::(none::(some (.box [.d yI i,.d yI j,.d yI k,.arr 64] false false)::(zo 51 (some (.box [.d (.sl (.int .u8)) l,.d yI m,.d (.int .u64) o] false true)::(zo 3 (some (.arr yI p true false false)::[]))))))))⟩) fun st=>lC R pol_Z167 6 N [1,1,1,1,0,1,0,0] F_Z167 n st (kB R pol_Z167 0 (kS R pol_Z167 13 N [1,1,1,1,1] F_Z167 (qs4 E sg_Z167 F_Z167)))
theorem Z167.l1_succ(R:Run)(hw:R.ok)(N a n:Nat)(b c d e f g h i j k:Int)(l:List Int)(m o:Int)(p:List Int):Z167.l1 R N a (n+1) b c d e f g h i j k l m o p=(bif (decide (e<c)) then((qgg R n_Z134 o_Z134 [⟨(.ptr yR),(l,m,o,())⟩,⟨yI,b⟩]).bind fun r32=>((chk (decide (0≤(w64 ((w64 (d*c))+e)))&&decide ((w64 ((w64 (d*c))+e))<(List.length p:Int)))).bind fun _=>(Z167.l1 R N a n b c d (w64 (e+1)) f g h i j k r32.2.1.1 r32.2.1.2.1 r32.2.1.2.2.1 (List.set p (Int.toNat (w64 ((w64 (d*c))+e))) r32.1)))) else(Z167.l0 R N a b c (w64 (d+1)) f g h i j k l m o p)):=(hw _ _).trans (by kernel_rfl)
theorem Z167.l0_succ(R:Run)(hw:R.ok)(N n:Nat)(a b c d e f g h i:Int)(j:List Int)(k l:Int)(m:List Int):Z167.l0 R N (n+1) a b c d e f g h i j k l m=(bif (decide (c<b)) then((qgg R n_Z134 o_Z134 [⟨(.ptr yR),(j,k,l,())⟩,⟨yI,(w64 (a-1))⟩]).bind fun r17=>((chk (decide (0≤(w64 ((w64 (c*b))+c)))&&decide ((w64 ((w64 (c*b))+c))<(List.length m:Int)))).bind fun _=>(Z167.l1 R N n N a b c (w64 (c+1)) d e f g h i r17.2.1.1 r17.2.1.2.1 r17.2.1.2.2.1 (List.set m (Int.toNat (w64 ((w64 (c*b))+c))) (w64 ((1:Int)+r17.1)))))) else some ⟨o_Z167,(g,h,i,m,(j,k,l,()),())⟩):=(hw _ _).trans (by kernel_rfl)
theorem Z167.ev(R:Run)(N:Nat)(a0:((List Int)×Int×Int×Unit))(a1 a2:Int):qsy E R sg_Z167 pol_Z167 F_Z167 N [⟨(.ptr yR),a0⟩,⟨yI,a1⟩,⟨yI,a2⟩]=((qgg R n_Z138 o_Z138 [⟨(.ptr yR),(a0.1,a0.2.1,a0.2.2.1,())⟩,⟨yI,a1⟩,⟨yI,a2⟩,⟨yI,a2⟩]).bind fun r1=>((qgg R n_Z143 o_Z143 [⟨(.ptr yM),(r1.1,r1.2.1,r1.2.2.1,r1.2.2.2.1,())⟩]).bind fun r2=>(bif (r2.1==a2) then some ⟨o_Z167,(r1.1,r1.2.1,r1.2.2.1,r1.2.2.2.1,(r1.2.2.2.2.1.1,r1.2.2.2.2.1.2.1,r1.2.2.2.2.1.2.2.1,()),())⟩ else((qgg R n_Z147 o_Z147 [⟨yI,a1⟩,⟨yI,a2⟩]).bind fun r3=>(Z167.l0 R N N a1 a2 (0:Int) (0:Int) (0:Int) (0:Int) r3.1 r3.2.1 r3.2.2.1 r1.2.2.2.2.1.1 r1.2.2.2.2.1.2.1 r1.2.2.2.2.1.2.2.1 r3.2.2.2.1))))):=by kernel_rfl
theorem Z126.ev(R:Run)(N:Nat)(a0 a1 a2:Int):qsy E R sg_Z126 pol_Z126 F_Z126 N [⟨yI,a0⟩,⟨yI,a1⟩,⟨yI,a2⟩]=(bif (decide (a0≥a1)) then some ⟨o_Z126,((decide (a0≤a2)),())⟩ else some ⟨o_Z126,(false,())⟩):=by kernel_rfl
def Z135.l0(R:Run)(N n:Nat)(a b:Int):Option Dv:=R.w (some ⟨(.c (.d yI a)::(V.dead::(V.dead::(.c (.d yI b)::(zd 14 []))))),(zo 19 [])⟩) fun st=>lC R pol_Z135 4 N [1,1,0,1,0,0] F_Z135 n st (kB R pol_Z135 0 (kS R pol_Z135 8 N [1,1,1] F_Z135 (qs4 E sg_Z135 F_Z135)))
theorem Z135.l0_succ(R:Run)(hw:R.ok)(N n:Nat)(a b:Int):Z135.l0 R N (n+1) a b=(bif (decide ((w64 (b*b))≤a)) then((chk (b != 0)).bind fun _=>(bif ((Int.tmod a b)==(0:Int)) then some ⟨o_Z135,(false,())⟩ else(Z135.l0 R N n a (w64 (b+1))))) else some ⟨o_Z135,(true,())⟩):=(hw _ _).trans (by kernel_rfl)
theorem Z135.ev(R:Run)(N:Nat)(a0:Int):qsy E R sg_Z135 pol_Z135 F_Z135 N [⟨yI,a0⟩]=((qgg R n_Z126 o_Z126 [⟨yI,a0⟩,⟨yI,(2:Int)⟩,⟨yI,(251:Int)⟩]).bind fun r1=>(bif (!r1.1) then some ⟨o_Z135,(false,())⟩ else(Z135.l0 R N N a0 (2:Int)))):=by kernel_rfl
theorem Z123.ev(R:Run)(N:Nat)(a0:Int):qsy E R sg_Z123 pol_Z123 F_Z123 N [⟨yI,a0⟩]=((qgg R n_Z135 o_Z135 [⟨yI,a0⟩]).bind fun r1=>some ⟨o_Z123,(r1.1,())⟩):=by kernel_rfl
def Z137.l0(R:Run)(N n:Nat)(a:List Int)(b e f:Int):Option Dv:=R.w (some ⟨(.c (.d yL a)::(.c (.d yI b)::(.c (.d yI e)::(zd 4 (.c (.d yI f)::(zd 18 [])))))),(zo 29 [])⟩) fun st=>lC R pol_Z137 2 N [1,0,1,0,0] F_Z137 n st (kB R pol_Z137 0 (kS R pol_Z137 6 N [1,1] F_Z137 (qs4 E sg_Z137 F_Z137)))
theorem Z137.l0_succ(R:Run)(hw:R.ok)(N n:Nat)(a:List Int)(b c d:Int):Z137.l0 R N (n+1) a b c d=(bif (decide (d<(List.length a:Int))) then((idx? a d).bind fun y5=>((qgg R n_Z126 o_Z126 [⟨yI,(y5,()).1⟩,⟨yI,(0:Int)⟩,⟨yI,(w64 (c-1))⟩]).bind fun r6=>(bif (!r6.1) then some ⟨o_Z137,(false,())⟩ else(Z137.l0 R N n a b c (w64 (d+1)))))) else some ⟨o_Z137,(((List.length a:Int)==b),())⟩):=(hw _ _).trans (by kernel_rfl)
theorem Z137.ev(R:Run)(N:Nat)(a0:List Int)(a1 a2:Int):qsy E R sg_Z137 pol_Z137 F_Z137 N [⟨yL,a0⟩,⟨yI,a1⟩,⟨yI,a2⟩]=(Z137.l0 R N N a0 a1 a2 (0:Int)):=by kernel_rfl
theorem Z142.ev(R:Run)(N:Nat)(a0:vM):qsy E R sg_Z142 pol_Z142 F_Z142 N [⟨(.ptr yM),a0⟩]=((qgg R n_Z123 o_Z123 [⟨yI,a0.1⟩]).bind fun r1=>(bif r1.1 then((qgg R n_Z126 o_Z126 [⟨yI,a0.2.1⟩,⟨yI,(0:Int)⟩,⟨yI,(32:Int)⟩]).bind fun r2=>(bif r2.1 then((qgg R n_Z126 o_Z126 [⟨yI,a0.2.2.1⟩,⟨yI,(0:Int)⟩,⟨yI,(32:Int)⟩]).bind fun r3=>(bif r3.1 then((qgg R n_Z137 o_Z137 [⟨yL,a0.2.2.2.1⟩,⟨yI,(w64 (a0.2.1*a0.2.2.1))⟩,⟨yI,a0.1⟩]).bind fun r4=>some ⟨o_Z142,(r4.1,())⟩) else some ⟨o_Z142,(false,())⟩)) else some ⟨o_Z142,(false,())⟩)) else some ⟨o_Z142,(false,())⟩)):=by kernel_rfl
def Z140.l1(R:Run)(N n:Nat)(a b:vM)(e f g h i j k:Int)(l:List Int):Option Dv:=R.w (some ⟨(.c (.ip yM a 0)::(.c (.ip yM b 0)::(V.dead::(V.dead::(.c (.box 4 0)::(.c (.box 5 0)::(.c (.d yI e)::(zd 72 [])))))))),(zo 4 (some (.box [.d yI f,.d yI g,.d yI h,.nils yI] false false)::(some (.box [.d yI i,.d yI j,.d yI k,.arr 24] false false)::(zo 18 (some (.arr yI l true false false)::(zo 56 []))))))⟩) fun st=>lC R pol_Z140 3 N [1,1,0,1,0,0] F_Z140 n st (kB R pol_Z140 0 (kS R pol_Z140 7 N [1,1,1] F_Z140 (qs4 E sg_Z140 F_Z140)))
def Z140.j0(R:Run)(N:Nat)(a b:vM)(e f g h i j:Int)(k:List Int):Option Dv:=R.w (some ⟨(.c (.ip yM a 0)::(.c (.ip yM b 0)::(V.dead::(V.dead::(.c (.box 4 0)::(.c (.box 5 0)::(zd 73 []))))))),(zo 4 (some (.box [.d yI e,.d yI f,.d yI g,.nils yI] false false)::(some (.box [.d yI h,.d yI i,.d yI j,.arr 24] false false)::(zo 18 (some (.arr yI k true false false)::(zo 56 []))))))⟩) fun st=>eC R pol_Z140 N [1,1] F_Z140 st (qs4 E sg_Z140 F_Z140)
theorem Z140.l1_succ(R:Run)(hw:R.ok)(N n:Nat)(a b:vM)(c d e f g h i:Int)(j:List Int):Z140.l1 R N (n+1) a b c d e f g h i j=(bif (decide (c<a.2.1)) then((chk (decide (0≤(w64 (c*a.2.2.1)))&&decide ((w64 (c*a.2.2.1))≤(w64 ((w64 (c+1))*a.2.2.1)))&&decide ((w64 ((w64 (c+1))*a.2.2.1))≤(List.length a.2.2.2.1:Int)))).bind fun _=>((chk (decide ((List.length j+List.length (List.drop (Int.toNat (w64 (c*a.2.2.1))) (List.take (Int.toNat (w64 ((w64 (c+1))*a.2.2.1))) a.2.2.2.1)))*8≤70368744177664))).bind fun _=>((chk (decide (0≤(w64 (c*b.2.2.1)))&&decide ((w64 (c*b.2.2.1))≤(w64 ((w64 (c+1))*b.2.2.1)))&&decide ((w64 ((w64 (c+1))*b.2.2.1))≤(List.length b.2.2.2.1:Int)))).bind fun _=>((chk (decide ((List.length (j++(List.drop (Int.toNat (w64 (c*a.2.2.1))) (List.take (Int.toNat (w64 ((w64 (c+1))*a.2.2.1))) a.2.2.2.1)))+List.length (List.drop (Int.toNat (w64 (c*b.2.2.1))) (List.take (Int.toNat (w64 ((w64 (c+1))*b.2.2.1))) b.2.2.2.1)))*8≤70368744177664))).bind fun _=>(Z140.l1 R N n a b (w64 (c+1)) d e f g h i ((j++(List.drop (Int.toNat (w64 (c*a.2.2.1))) (List.take (Int.toNat (w64 ((w64 (c+1))*a.2.2.1))) a.2.2.2.1)))++(List.drop (Int.toNat (w64 (c*b.2.2.1))) (List.take (Int.toNat (w64 ((w64 (c+1))*b.2.2.1))) b.2.2.2.1)))))))) else some ⟨o_Z140,(g,h,i,j,())⟩):=(hw _ _).trans (by kernel_rfl)
theorem Z140.j0_eq(R:Run)(hw:R.ok)(N:Nat)(a b:vM)(c d e f g h:Int)(i:List Int):Z140.j0 R N a b c d e f g h i=(Z140.l1 R N N a b (0:Int) c d e f g h i):=(hw _ _).trans (by kernel_rfl)
theorem Z140.ev(R:Run)(N:Nat)(a0 a1:vM):qsy E R sg_Z140 pol_Z140 F_Z140 N [⟨(.ptr yM),a0⟩,⟨(.ptr yM),a1⟩]=(qpQ (Z140.j0 R N a0 a1 (0:Int) (0:Int) (0:Int) a0.1 a0.2.1 (w64 (a0.2.2.1+a1.2.2.1)) ([]:List Int)) (Z140.j0 R N a0 a1 (0:Int) (0:Int) (0:Int) a0.1 a0.2.1 (w64 (a0.2.2.1+a1.2.2.1)) ([]:List Int))):=by kernel_rfl
end
end VeT
