import Derived.Test.YtagdejckmpipbaaGreatV2
import Derived.Test.YtagdejckmpipbaaGreatProg
import Derived.KernelRfl
set_option linter.unusedVariables false
set_option linter.unusedSimpArgs false
open Go Go.Proofs Ve
set_option maxRecDepth 100000
namespace VeT
abbrev yM : Ty := .cons (.int .i64) (.cons (.int .i64) (.cons (.int .i64) (.cons (.sl (.int .i64)) .nil)))
abbrev yI : Ty := .int .i64
abbrev yL : Ty := .sl yI
abbrev yK : Ty := .sl yL
abbrev yN : Ty := .sl (.st yM)
abbrev yS : Ty := .cons yK (.cons yI (.cons yL (.cons yN .nil)))
abbrev yR : Ty := .cons (.sl (.int .u8)) (.cons yI (.cons (.int .u64) .nil))
abbrev yC : Ty := .cons yK .nil
abbrev vM := Int × Int × Int × List Int × Unit
abbrev vK := List (List Int)
abbrev vN := List vM
abbrev vS := vK × Int × List Int × vN × Unit
noncomputable section
def bodyOf(f:Func):Code:=f.body.getD .skip
def zd:Nat→List Ve.V→List Ve.V
  | 0,t=>t
  | n+1,t=>V.dead::zd n t
def zo:Nat→List (Option Ve.Obj)→List (Option Ve.Obj)
  | 0,t=>t
  | n+1,t=>none::zo n t
abbrev n_Z76:Nat:=3
abbrev n_Z94:Nat:=4
abbrev n_Z124:Nat:=5
abbrev n_Z100:Nat:=6
abbrev n_Z5:Nat:=7
abbrev n_Z78:Nat:=8
abbrev n_Z82:Nat:=9
abbrev n_Z88:Nat:=10
abbrev n_Z85:Nat:=11
abbrev n_Z83:Nat:=12
abbrev n_Z89:Nat:=13
abbrev n_Z90:Nat:=14
abbrev n_Z93:Nat:=15
abbrev n_Z153:Nat:=16
abbrev n_Z127:Nat:=17
abbrev n_Z148:Nat:=18
abbrev n_Z169:Nat:=19
abbrev n_Z128:Nat:=20
abbrev n_Z95:Nat:=21
abbrev n_Z96:Nat:=22
abbrev n_Z99:Nat:=23
abbrev n_Z6:Nat:=24
abbrev n_Z48:Nat:=25
abbrev n_Z65:Nat:=26
abbrev n_Z71:Nat:=27
abbrev n_Z40:Nat:=28
abbrev n_Z28:Nat:=29
abbrev n_Z44:Nat:=30
abbrev n_Z55:Nat:=31
abbrev n_Z77:Nat:=32
abbrev n_Z81:Nat:=33
abbrev n_Z84:Nat:=34
abbrev n_Z87:Nat:=35
abbrev n_Z91:Nat:=36
abbrev n_Z92:Nat:=37
abbrev n_Z155:Nat:=38
abbrev n_Z161:Nat:=39
abbrev n_Z165:Nat:=40
abbrev n_Z97:Nat:=41
abbrev n_Z98:Nat:=42
abbrev n_Z14:Nat:=43
abbrev n_Z73:Nat:=44
abbrev n_Z72:Nat:=45
abbrev n_Z64:Nat:=46
abbrev n_Z53:Nat:=47
abbrev n_Z27:Nat:=48
abbrev n_Z103:Nat:=49
abbrev n_Z79:Nat:=50
abbrev n_Z80:Nat:=51
abbrev n_Z86:Nat:=52
abbrev n_Z149:Nat:=53
abbrev n_Z125:Nat:=54
abbrev n_Z158:Nat:=55
abbrev n_Z151:Nat:=56
abbrev n_Z154:Nat:=57
abbrev n_Z156:Nat:=58
abbrev n_Z160:Nat:=59
abbrev n_Z139:Nat:=60
abbrev n_Z167:Nat:=61
abbrev n_Z162:Nat:=62
abbrev n_Z166:Nat:=63
abbrev n_Z10:Nat:=64
abbrev n_Z13:Nat:=65
abbrev n_Z21:Nat:=66
abbrev n_Z23:Nat:=67
abbrev n_Z47:Nat:=68
abbrev n_Z33:Nat:=69
abbrev n_Z57:Nat:=70
abbrev n_Z29:Nat:=71
abbrev n_Z9:Nat:=72
abbrev n_Z62:Nat:=73
abbrev n_Z31:Nat:=74
abbrev n_Z112:Nat:=75
abbrev n_Z59:Nat:=76
abbrev n_Z66:Nat:=77
abbrev n_Z24:Nat:=78
abbrev n_Z43:Nat:=79
abbrev n_Z60:Nat:=80
abbrev n_Z41:Nat:=81
abbrev n_Z54:Nat:=82
abbrev n_Z150:Nat:=83
abbrev n_Z144:Nat:=84
abbrev n_Z147:Nat:=85
abbrev n_Z145:Nat:=86
abbrev n_Z132:Nat:=87
abbrev n_Z133:Nat:=88
abbrev n_Z159:Nat:=89
abbrev n_Z146:Nat:=90
abbrev n_Z137:Nat:=91
abbrev n_Z140:Nat:=92
abbrev n_Z152:Nat:=93
abbrev n_Z143:Nat:=94
abbrev n_Z135:Nat:=95
abbrev n_Z163:Nat:=96
abbrev n_Z164:Nat:=97
abbrev n_Z157:Nat:=98
abbrev n_Z168:Nat:=99
abbrev n_Z170:Nat:=100
abbrev n_Z15:Nat:=101
abbrev n_Z26:Nat:=102
abbrev n_Z106:Nat:=103
abbrev n_Z34:Nat:=104
abbrev n_Z11:Nat:=105
abbrev n_Z45:Nat:=106
abbrev n_Z108:Nat:=107
abbrev n_Z22:Nat:=108
abbrev n_Z12:Nat:=109
abbrev n_Z25:Nat:=110
abbrev n_Z35:Nat:=111
abbrev n_Z58:Nat:=112
abbrev n_Z30:Nat:=113
abbrev n_Z8:Nat:=114
abbrev n_Z42:Nat:=115
abbrev n_Z113:Nat:=116
abbrev n_Z115:Nat:=117
abbrev n_Z32:Nat:=118
abbrev n_Z17:Nat:=119
abbrev n_Z46:Nat:=120
abbrev n_Z123:Nat:=121
abbrev n_Z63:Nat:=122
abbrev n_Z74:Nat:=123
abbrev n_Z7:Nat:=124
abbrev n_Z18:Nat:=125
abbrev n_Z69:Nat:=126
abbrev n_Z118:Nat:=127
abbrev n_Z61:Nat:=128
abbrev n_Z105:Nat:=129
abbrev n_Z129:Nat:=130
abbrev n_Z130:Nat:=131
abbrev n_Z142:Nat:=132
abbrev n_Z138:Nat:=133
abbrev n_Z126:Nat:=134
abbrev n_Z136:Nat:=135
abbrev n_Z171:Nat:=136
abbrev n_Z141:Nat:=137
abbrev n_Z50:Nat:=138
abbrev n_Z16:Nat:=139
abbrev n_Z52:Nat:=140
abbrev n_Z2:Nat:=141
abbrev n_Z0:Nat:=142
abbrev n_Z104:Nat:=143
abbrev n_Z101:Nat:=144
abbrev n_Z51:Nat:=145
abbrev n_Z19:Nat:=146
abbrev n_Z67:Nat:=147
abbrev n_Z56:Nat:=148
abbrev n_Z75:Nat:=149
abbrev n_Z70:Nat:=150
abbrev n_Z114:Nat:=151
abbrev n_Z134:Nat:=152
abbrev n_Z131:Nat:=153
abbrev n_Z3:Nat:=154
abbrev n_Z1:Nat:=155
abbrev n_Z20:Nat:=156
abbrev n_Z49:Nat:=157
abbrev n_Z68:Nat:=158
abbrev n_Z4:Nat:=159
abbrev F_Z76:Func:=Tryz.f3
abbrev F_Z94:Func:=Tryz.f4
abbrev F_Z124:Func:=Tryz.f5
abbrev F_Z100:Func:=Tryz.f6
abbrev F_Z5:Func:=Tryz.f7
abbrev F_Z78:Func:=Tryz.f8
abbrev F_Z82:Func:=Tryz.f9
abbrev F_Z88:Func:=Tryz.f10
abbrev F_Z85:Func:=Tryz.f11
abbrev F_Z83:Func:=Tryz.f12
abbrev F_Z89:Func:=Tryz.f13
abbrev F_Z90:Func:=Tryz.f14
abbrev F_Z93:Func:=Tryz.f15
abbrev F_Z153:Func:=Tryz.f16
abbrev F_Z127:Func:=Tryz.f17
abbrev F_Z148:Func:=Tryz.f18
abbrev F_Z169:Func:=Tryz.f19
abbrev F_Z128:Func:=Tryz.f20
abbrev F_Z95:Func:=Tryz.f21
abbrev F_Z96:Func:=Tryz.f22
abbrev F_Z99:Func:=Tryz.f23
abbrev F_Z6:Func:=Tryz.f24
abbrev F_Z48:Func:=Tryz.f25
abbrev F_Z65:Func:=Tryz.f26
abbrev F_Z71:Func:=Tryz.f27
abbrev F_Z40:Func:=Tryz.f28
abbrev F_Z28:Func:=Tryz.f29
abbrev F_Z44:Func:=Tryz.f30
abbrev F_Z55:Func:=Tryz.f31
abbrev F_Z77:Func:=Tryz.f32
abbrev F_Z81:Func:=Tryz.f33
abbrev F_Z84:Func:=Tryz.f34
abbrev F_Z87:Func:=Tryz.f35
abbrev F_Z91:Func:=Tryz.f36
abbrev F_Z92:Func:=Tryz.f37
abbrev F_Z155:Func:=Tryz.f38
abbrev F_Z161:Func:=Tryz.f39
abbrev F_Z165:Func:=Tryz.f40
abbrev F_Z97:Func:=Tryz.f41
abbrev F_Z98:Func:=Tryz.f42
abbrev F_Z14:Func:=Tryz.f43
abbrev F_Z73:Func:=Tryz.f44
abbrev F_Z72:Func:=Tryz.f45
abbrev F_Z64:Func:=Tryz.f46
abbrev F_Z53:Func:=Tryz.f47
abbrev F_Z27:Func:=Tryz.f48
abbrev F_Z103:Func:=Tryz.f49
abbrev F_Z79:Func:=Tryz.f50
abbrev F_Z80:Func:=Tryz.f51
abbrev F_Z86:Func:=Tryz.f52
abbrev F_Z149:Func:=Tryz.f53
abbrev F_Z125:Func:=Tryz.f54
abbrev F_Z158:Func:=Tryz.f55
abbrev F_Z151:Func:=Tryz.f56
abbrev F_Z154:Func:=Tryz.f57
abbrev F_Z156:Func:=Tryz.f58
abbrev F_Z160:Func:=Tryz.f59
abbrev F_Z139:Func:=Tryz.f60
abbrev F_Z167:Func:=Tryz.f61
abbrev F_Z162:Func:=Tryz.f62
abbrev F_Z166:Func:=Tryz.f63
abbrev F_Z10:Func:=Tryz.f64
abbrev F_Z13:Func:=Tryz.f65
abbrev F_Z21:Func:=Tryz.f66
abbrev F_Z23:Func:=Tryz.f67
abbrev F_Z47:Func:=Tryz.f68
abbrev F_Z33:Func:=Tryz.f69
abbrev F_Z57:Func:=Tryz.f70
abbrev F_Z29:Func:=Tryz.f71
abbrev F_Z9:Func:=Tryz.f72
abbrev F_Z62:Func:=Tryz.f73
abbrev F_Z31:Func:=Tryz.f74
abbrev F_Z112:Func:=Tryz.f75
abbrev F_Z59:Func:=Tryz.f76
abbrev F_Z66:Func:=Tryz.f77
abbrev F_Z24:Func:=Tryz.f78
abbrev F_Z43:Func:=Tryz.f79
abbrev F_Z60:Func:=Tryz.f80
abbrev F_Z41:Func:=Tryz.f81
abbrev F_Z54:Func:=Tryz.f82
abbrev F_Z150:Func:=Tryz.f83
abbrev F_Z144:Func:=Tryz.f84
abbrev F_Z147:Func:=Tryz.f85
abbrev F_Z145:Func:=Tryz.f86
abbrev F_Z132:Func:=Tryz.f87
abbrev F_Z133:Func:=Tryz.f88
abbrev F_Z159:Func:=Tryz.f89
abbrev F_Z146:Func:=Tryz.f90
abbrev F_Z137:Func:=Tryz.f91
abbrev F_Z140:Func:=Tryz.f92
abbrev F_Z152:Func:=Tryz.f93
abbrev F_Z143:Func:=Tryz.f94
abbrev F_Z135:Func:=Tryz.f95
abbrev F_Z163:Func:=Tryz.f96
abbrev F_Z164:Func:=Tryz.f97
abbrev F_Z157:Func:=Tryz.f98
abbrev F_Z168:Func:=Tryz.f99
abbrev F_Z170:Func:=Tryz.f100
abbrev F_Z15:Func:=Tryz.f101
abbrev F_Z26:Func:=Tryz.f102
abbrev F_Z106:Func:=Tryz.f103
abbrev F_Z34:Func:=Tryz.f104
abbrev F_Z11:Func:=Tryz.f105
abbrev F_Z45:Func:=Tryz.f106
abbrev F_Z108:Func:=Tryz.f107
abbrev F_Z22:Func:=Tryz.f108
abbrev F_Z12:Func:=Tryz.f109
abbrev F_Z25:Func:=Tryz.f110
abbrev F_Z35:Func:=Tryz.f111
abbrev F_Z58:Func:=Tryz.f112
abbrev F_Z30:Func:=Tryz.f113
abbrev F_Z8:Func:=Tryz.f114
abbrev F_Z42:Func:=Tryz.f115
abbrev F_Z113:Func:=Tryz.f116
abbrev F_Z115:Func:=Tryz.f117
abbrev F_Z32:Func:=Tryz.f118
abbrev F_Z17:Func:=Tryz.f119
abbrev F_Z46:Func:=Tryz.f120
abbrev F_Z123:Func:=Tryz.f121
abbrev F_Z63:Func:=Tryz.f122
abbrev F_Z74:Func:=Tryz.f123
abbrev F_Z7:Func:=Tryz.f124
abbrev F_Z18:Func:=Tryz.f125
abbrev F_Z69:Func:=Tryz.f126
abbrev F_Z118:Func:=Tryz.f127
abbrev F_Z61:Func:=Tryz.f128
abbrev F_Z105:Func:=Tryz.f129
abbrev F_Z129:Func:=Tryz.f130
abbrev F_Z130:Func:=Tryz.f131
abbrev F_Z142:Func:=Tryz.f132
abbrev F_Z138:Func:=Tryz.f133
abbrev F_Z126:Func:=Tryz.f134
abbrev F_Z136:Func:=Tryz.f135
abbrev F_Z171:Func:=Tryz.f136
abbrev F_Z141:Func:=Tryz.f137
abbrev F_Z50:Func:=Tryz.f138
abbrev F_Z16:Func:=Tryz.f139
abbrev F_Z52:Func:=Tryz.f140
abbrev F_Z2:Func:=Tryz.f141
abbrev F_Z0:Func:=Tryz.f142
abbrev F_Z104:Func:=Tryz.f143
abbrev F_Z101:Func:=Tryz.f144
abbrev F_Z51:Func:=Tryz.f145
abbrev F_Z19:Func:=Tryz.f146
abbrev F_Z67:Func:=Tryz.f147
abbrev F_Z56:Func:=Tryz.f148
abbrev F_Z75:Func:=Tryz.f149
abbrev F_Z70:Func:=Tryz.f150
abbrev F_Z114:Func:=Tryz.f151
abbrev F_Z134:Func:=Tryz.f152
abbrev F_Z131:Func:=Tryz.f153
abbrev F_Z3:Func:=Tryz.f154
abbrev F_Z1:Func:=Tryz.f155
abbrev F_Z20:Func:=Tryz.f156
abbrev F_Z49:Func:=Tryz.f157
abbrev F_Z68:Func:=Tryz.f158
abbrev F_Z4:Func:=Tryz.f159
abbrev o_Z76:Ty:=(.cons .bool .nil)
def sg_Z76:Sig:=⟨[(true,4),(false,1)],[],o_Z76,[(false,1)],[],[]⟩
abbrev o_Z94:Ty:=(.cons yI .nil)
def sg_Z94:Sig:=⟨[(true,4),(false,1)],[],o_Z94,[(false,1)],[],[]⟩
abbrev o_Z124:Ty:=(.cons yL (.cons yI .nil))
def sg_Z124:Sig:=⟨[(true,4),(false,1)],[],o_Z124,[(false,1),(false,1)],[.deep,.imm],[]⟩
abbrev o_Z100:Ty:=yS
def sg_Z100:Sig:=⟨[(true,4)],[],o_Z100,[(true,4)],[.deep,.imm,.deep,.deep],[]⟩
abbrev o_Z5:Ty:=(.cons yL (.cons yI .nil))
def sg_Z5:Sig:=⟨[(true,4),(false,1)],[],o_Z5,[(false,1),(false,1)],[.deep,.imm],[]⟩
abbrev o_Z78:Ty:=(.cons .bool .nil)
def sg_Z78:Sig:=⟨[(false,1),(false,1)],[],o_Z78,[(false,1)],[],[]⟩
abbrev o_Z82:Ty:=(.cons .bool .nil)
def sg_Z82:Sig:=⟨[(true,4),(true,4)],[],o_Z82,[(false,1)],[],[]⟩
abbrev o_Z88:Ty:=(.cons yI (.cons yK (.cons yL (.cons yN .nil))))
def sg_Z88:Sig:=⟨[(true,4),(false,1)],[.io true,.imm,.io true,.io true,.imm],o_Z88,[(false,1)],[],[]⟩
abbrev o_Z85:Ty:=(.cons yI (.cons yL .nil))
def sg_Z85:Sig:=⟨[(false,1),(false,1)],[.io true,.imm],o_Z85,[(false,1)],[],[]⟩
abbrev o_Z83:Ty:=(.cons yI .nil)
def sg_Z83:Sig:=⟨[(false,1),(false,1)],[],o_Z83,[(false,1)],[],[]⟩
abbrev o_Z89:Ty:=(.cons yI .nil)
def sg_Z89:Sig:=⟨[(true,1),(false,1)],[],o_Z89,[(false,1)],[],[]⟩
abbrev o_Z90:Ty:=(.cons yI .nil)
def sg_Z90:Sig:=⟨[(false,1),(false,1)],[],o_Z90,[(false,1)],[],[]⟩
abbrev o_Z93:Ty:=(.cons yI .nil)
def sg_Z93:Sig:=⟨[(false,1),(false,1)],[],o_Z93,[(false,1)],[],[]⟩
abbrev o_Z153:Ty:=(.cons .bool .nil)
def sg_Z153:Sig:=⟨[(false,1)],[],o_Z153,[(false,1)],[],[(.ptr yS)]⟩
abbrev o_Z127:Ty:=(.cons .bool .nil)
def sg_Z127:Sig:=⟨[(false,1),(false,1),(false,1)],[],o_Z127,[(false,1)],[],[]⟩
abbrev o_Z148:Ty:=(.cons yL .nil)
def sg_Z148:Sig:=⟨[(false,1),(false,1)],[],o_Z148,[(false,1)],[.deep],[(.ptr yC)]⟩
abbrev o_Z169:Ty:=(.cons .bool (.cons (.ptr (.cons (.ptr yS) (.cons yI (.cons yI (.cons yL (.cons yI (.cons yI (.cons .bool .nil)))))))) .nil))
def sg_Z169:Sig:=⟨[(false,1),(false,1)],[.iobo 3,.imm],o_Z169,[(false,1)],[],[(.ptr (.cons (.ptr yS) (.cons yI (.cons yI (.cons yL (.cons yI (.cons yI (.cons .bool .nil))))))))]⟩
abbrev o_Z128:Ty:=(.cons yL .nil)
def sg_Z128:Sig:=⟨[(false,1)],[],o_Z128,[(false,1)],[.deep],[]⟩
abbrev o_Z95:Ty:=yC
def sg_Z95:Sig:=⟨[(true,1)],[],o_Z95,[(true,1)],[.deep],[]⟩
abbrev o_Z96:Ty:=(.cons yL .nil)
def sg_Z96:Sig:=⟨[(false,1)],[],o_Z96,[(false,1)],[.deep],[]⟩
abbrev o_Z99:Ty:=(.cons yN .nil)
def sg_Z99:Sig:=⟨[(false,1)],[],o_Z99,[(false,1)],[.deep],[]⟩
abbrev o_Z6:Ty:=(.cons .bool .nil)
def sg_Z6:Sig:=⟨[(true,4)],[],o_Z6,[(false,1)],[],[]⟩
abbrev o_Z48:Ty:=(.cons .bool .nil)
def sg_Z48:Sig:=⟨[(false,1)],[],o_Z48,[(false,1)],[],[]⟩
abbrev o_Z65:Ty:=(.cons yI .nil)
def sg_Z65:Sig:=⟨[(false,1)],[],o_Z65,[(false,1)],[],[]⟩
abbrev o_Z71:Ty:=(.cons yL .nil)
def sg_Z71:Sig:=⟨[(true,1)],[],o_Z71,[(false,1)],[.deep],[]⟩
abbrev o_Z40:Ty:=(.cons yL .nil)
def sg_Z40:Sig:=⟨[(false,1)],[],o_Z40,[(false,1)],[.deep],[]⟩
abbrev o_Z28:Ty:=(.cons .bool (.cons (.ptr (.cons yI (.cons .bool .nil))) .nil))
def sg_Z28:Sig:=⟨[(false,1)],[.iob],o_Z28,[(false,1)],[],[(.ptr (.cons yI (.cons .bool .nil)))]⟩
abbrev o_Z44:Ty:=(.cons yI .nil)
def sg_Z44:Sig:=⟨[(true,4),(false,1)],[],o_Z44,[(false,1)],[],[]⟩
abbrev o_Z55:Ty:=(.cons yL (.cons .bool .nil))
def sg_Z55:Sig:=⟨[(false,1),(false,1)],[],o_Z55,[(false,1),(false,1)],[.deep,.imm],[]⟩
abbrev o_Z77:Ty:=(.cons .bool .nil)
def sg_Z77:Sig:=⟨[(true,1),(true,1)],[],o_Z77,[(false,1)],[],[]⟩
abbrev o_Z81:Ty:=(.cons .bool .nil)
def sg_Z81:Sig:=⟨[(false,1),(false,1)],[],o_Z81,[(false,1)],[],[]⟩
abbrev o_Z84:Ty:=(.cons yI yC)
def sg_Z84:Sig:=⟨[(true,1),(false,1)],[.io true,.imm],o_Z84,[(false,1)],[],[]⟩
abbrev o_Z87:Ty:=(.cons yI (.cons yN .nil))
def sg_Z87:Sig:=⟨[(false,1),(false,1)],[.io true,.imm],o_Z87,[(false,1)],[],[]⟩
abbrev o_Z91:Ty:=(.cons yI .nil)
def sg_Z91:Sig:=⟨[(false,1),(false,1)],[],o_Z91,[(false,1)],[],[]⟩
abbrev o_Z92:Ty:=(.cons yI .nil)
def sg_Z92:Sig:=⟨[(true,4),(false,1)],[],o_Z92,[(false,1)],[],[]⟩
abbrev o_Z155:Ty:=(.cons .bool .nil)
def sg_Z155:Sig:=⟨[(false,1)],[],o_Z155,[(false,1)],[],[(.ptr yS)]⟩
abbrev o_Z161:Ty:=(.cons yI (.cons yI (.cons yI .nil)))
def sg_Z161:Sig:=⟨[(false,1)],[],o_Z161,[(false,1),(false,1),(false,1)],[],[(.ptr yS)]⟩
abbrev o_Z165:Ty:=(.cons yI .nil)
def sg_Z165:Sig:=⟨[(false,1),(false,1)],[],o_Z165,[(false,1)],[],[(.ptr yS)]⟩
abbrev o_Z97:Ty:=yC
def sg_Z97:Sig:=⟨[(false,1)],[],o_Z97,[(false,1)],[.deep],[]⟩
abbrev o_Z98:Ty:=yM
def sg_Z98:Sig:=⟨[(true,4)],[],o_Z98,[(true,4)],[.imm,.imm,.imm,.deep],[]⟩
abbrev o_Z14:Ty:=(.cons .bool .nil)
def sg_Z14:Sig:=⟨[(true,4)],[],o_Z14,[(false,1)],[],[]⟩
abbrev o_Z73:Ty:=(.cons yI (.cons yI (.cons .bool .nil)))
def sg_Z73:Sig:=⟨[(true,4)],[],o_Z73,[(false,1),(false,1),(false,1)],[],[]⟩
abbrev o_Z72:Ty:=(.cons .bool .nil)
def sg_Z72:Sig:=⟨[(false,1),(false,1),(false,1)],[],o_Z72,[(false,1)],[],[]⟩
abbrev o_Z64:Ty:=(.cons yI .nil)
def sg_Z64:Sig:=⟨[(false,1)],[],o_Z64,[(false,1)],[],[]⟩
abbrev o_Z53:Ty:=yC
def sg_Z53:Sig:=⟨[(true,4)],[],o_Z53,[(false,1)],[.deep],[]⟩
abbrev o_Z27:Ty:=yM
def sg_Z27:Sig:=⟨[(true,4),(false,1)],[],o_Z27,[(true,4)],[.imm,.imm,.imm,.deep],[]⟩
abbrev o_Z103:Ty:=(.cons yL .nil)
def sg_Z103:Sig:=⟨[(false,1)],[],o_Z103,[(false,1)],[.deep],[]⟩
abbrev o_Z79:Ty:=(.cons .bool .nil)
def sg_Z79:Sig:=⟨[(false,1),(false,1)],[],o_Z79,[(false,1)],[],[]⟩
abbrev o_Z80:Ty:=(.cons .bool .nil)
def sg_Z80:Sig:=⟨[(true,4),(true,4)],[],o_Z80,[(false,1)],[],[]⟩
abbrev o_Z86:Ty:=(.cons yI yC)
def sg_Z86:Sig:=⟨[(false,1),(false,1)],[.io true,.imm],o_Z86,[(false,1)],[],[]⟩
abbrev o_Z149:Ty:=(.cons .bool .nil)
def sg_Z149:Sig:=⟨[(false,1)],[],o_Z149,[(false,1)],[],[(.ptr yC)]⟩
abbrev o_Z125:Ty:=(.cons .bool .nil)
def sg_Z125:Sig:=⟨[(false,1)],[],o_Z125,[(false,1)],[],[]⟩
abbrev o_Z158:Ty:=(.cons .bool .nil)
def sg_Z158:Sig:=⟨[(false,1),(false,1)],[],o_Z158,[(false,1)],[],[(.ptr yC)]⟩
abbrev o_Z151:Ty:=(.cons yI .nil)
def sg_Z151:Sig:=⟨[(false,1)],[],o_Z151,[(false,1)],[],[(.ptr yC)]⟩
abbrev o_Z154:Ty:=(.cons .bool .nil)
def sg_Z154:Sig:=⟨[(false,1),(false,1),(false,1),(false,1)],[],o_Z154,[(false,1)],[],[(.ptr yS),.nil,.nil,(.ptr yM)]⟩
abbrev o_Z156:Ty:=(.cons yI .nil)
def sg_Z156:Sig:=⟨[(false,1),(false,1),(false,1)],[],o_Z156,[(false,1)],[],[(.ptr yC)]⟩
abbrev o_Z160:Ty:=yM
def sg_Z160:Sig:=⟨[(false,1),(false,1),(false,1),(false,1)],[],o_Z160,[(true,4)],[.imm,.imm,.imm,.deep],[(.ptr yS)]⟩
abbrev o_Z139:Ty:=(.cons .bool .nil)
def sg_Z139:Sig:=⟨[(false,1),(false,1)],[],o_Z139,[(false,1)],[],[(.ptr yM),(.ptr yM)]⟩
abbrev o_Z167:Ty:=yC
def sg_Z167:Sig:=⟨[(false,1),(false,1),(false,1)],[],o_Z167,[(false,1)],[.deep],[]⟩
abbrev o_Z162:Ty:=(.cons yI .nil)
def sg_Z162:Sig:=⟨[(false,1)],[],o_Z162,[(false,1)],[],[(.ptr yS)]⟩
abbrev o_Z166:Ty:=yC
def sg_Z166:Sig:=⟨[(false,1),(false,1)],[],o_Z166,[(false,1)],[.deep],[(.ptr yS)]⟩
abbrev o_Z10:Ty:=(.cons .bool .nil)
def sg_Z10:Sig:=⟨[(true,1)],[],o_Z10,[(false,1)],[],[]⟩
abbrev o_Z13:Ty:=(.cons .bool .nil)
def sg_Z13:Sig:=⟨[(false,1)],[],o_Z13,[(false,1)],[],[]⟩
abbrev o_Z21:Ty:=(.cons .bool .nil)
def sg_Z21:Sig:=⟨[(true,1),(false,1)],[],o_Z21,[(false,1)],[],[]⟩
abbrev o_Z23:Ty:=(.cons (.sl (.st (.cons yI (.cons yI (.cons yI .nil))))) .nil)
def sg_Z23:Sig:=⟨[(true,1)],[],o_Z23,[(false,1)],[.deep],[]⟩
abbrev o_Z47:Ty:=(.cons .bool .nil)
def sg_Z47:Sig:=⟨[(true,4),(false,1),(false,1),(false,1)],[],o_Z47,[(false,1)],[],[]⟩
abbrev o_Z33:Ty:=(.cons yL .nil)
def sg_Z33:Sig:=⟨[(true,1),(false,1)],[],o_Z33,[(false,1)],[.deep],[]⟩
abbrev o_Z57:Ty:=yM
def sg_Z57:Sig:=⟨[(true,4),(true,4)],[],o_Z57,[(true,4)],[.imm,.imm,.imm,.deep],[]⟩
abbrev o_Z29:Ty:=yM
def sg_Z29:Sig:=⟨[(true,4),(false,1),(false,1)],[],o_Z29,[(true,4)],[],[]⟩
abbrev o_Z9:Ty:=(.cons .bool .nil)
def sg_Z9:Sig:=⟨[(true,4),(true,4)],[],o_Z9,[(false,1)],[],[]⟩
abbrev o_Z62:Ty:=yC
def sg_Z62:Sig:=⟨[(true,4)],[],o_Z62,[(false,1)],[.deep],[]⟩
abbrev o_Z31:Ty:=(.cons yL (.cons yI yC))
def sg_Z31:Sig:=⟨[(false,1),(false,1),(false,1)],[.io false,.imm,.imm],o_Z31,[(false,1),(false,1)],[.deep,.imm],[]⟩
abbrev o_Z112:Ty:=(.cons .bool .nil)
def sg_Z112:Sig:=⟨[(false,1),(false,1)],[],o_Z112,[(false,1)],[],[]⟩
abbrev o_Z59:Ty:=(.cons yI .nil)
def sg_Z59:Sig:=⟨[(false,1),(false,1)],[],o_Z59,[(false,1)],[],[]⟩
abbrev o_Z66:Ty:=(.cons yI .nil)
def sg_Z66:Sig:=⟨[(true,4),(false,1)],[],o_Z66,[(false,1)],[],[]⟩
abbrev o_Z24:Ty:=yM
def sg_Z24:Sig:=⟨[(true,4),(false,1)],[],o_Z24,[(true,4)],[.imm,.imm,.imm,.deep],[]⟩
abbrev o_Z43:Ty:=(.cons yI .nil)
def sg_Z43:Sig:=⟨[(true,4),(false,1)],[],o_Z43,[(false,1)],[],[]⟩
abbrev o_Z60:Ty:=yM
def sg_Z60:Sig:=⟨[(true,4),(false,1),(false,1)],[],o_Z60,[(true,4)],[.imm,.imm,.imm,.deep],[]⟩
abbrev o_Z41:Ty:=(.cons yI .nil)
def sg_Z41:Sig:=⟨[(true,4),(false,1)],[],o_Z41,[(false,1)],[],[]⟩
abbrev o_Z54:Ty:=yM
def sg_Z54:Sig:=⟨[(false,1),(false,1),(false,1)],[],o_Z54,[(true,4)],[.imm,.imm,.imm,.deep],[]⟩
abbrev o_Z150:Ty:=(.cons .bool .nil)
def sg_Z150:Sig:=⟨[(false,1)],[],o_Z150,[(false,1)],[],[]⟩
abbrev o_Z144:Ty:=(.cons .bool .nil)
def sg_Z144:Sig:=⟨[(false,1),(false,1)],[],o_Z144,[(false,1)],[],[]⟩
abbrev o_Z147:Ty:=(.cons yI .nil)
def sg_Z147:Sig:=⟨[(false,1),(false,1)],[],o_Z147,[(false,1)],[],[(.ptr yC)]⟩
abbrev o_Z145:Ty:=(.cons yL .nil)
def sg_Z145:Sig:=⟨[(false,1),(false,1)],[],o_Z145,[(false,1)],[.deep],[]⟩
abbrev o_Z132:Ty:=(.cons .bool .nil)
def sg_Z132:Sig:=⟨[(false,1)],[],o_Z132,[(false,1)],[],[]⟩
abbrev o_Z133:Ty:=(.cons .bool .nil)
def sg_Z133:Sig:=⟨[(false,1),(false,1),(false,1)],[],o_Z133,[(false,1)],[],[]⟩
abbrev o_Z159:Ty:=(.cons yI .nil)
def sg_Z159:Sig:=⟨[(false,1),(false,1),(false,1)],[],o_Z159,[(false,1)],[],[(.ptr yC)]⟩
abbrev o_Z146:Ty:=(.cons yL .nil)
def sg_Z146:Sig:=⟨[(false,1),(false,1)],[],o_Z146,[(false,1)],[.deep],[(.ptr yC)]⟩
abbrev o_Z137:Ty:=(.cons .bool .nil)
def sg_Z137:Sig:=⟨[(false,1)],[],o_Z137,[(false,1)],[],[(.ptr yM)]⟩
abbrev o_Z140:Ty:=yM
def sg_Z140:Sig:=⟨[(false,1),(false,1)],[],o_Z140,[(true,4)],[.imm,.imm,.imm,.deep],[(.ptr yM),(.ptr yM)]⟩
abbrev o_Z152:Ty:=(.cons (.ptr yM) .nil)
def sg_Z152:Sig:=⟨[(false,1),(false,1),(false,1)],[],o_Z152,[(false,1)],[],[(.ptr yS)]⟩
abbrev o_Z143:Ty:=yM
def sg_Z143:Sig:=⟨[(false,1),(false,1),(false,1)],[],o_Z143,[(true,4)],[.imm,.imm,.imm,.deep],[]⟩
abbrev o_Z135:Ty:=yC
def sg_Z135:Sig:=⟨[(false,1)],[],o_Z135,[(false,1)],[.deep],[(.ptr yM)]⟩
abbrev o_Z163:Ty:=yC
def sg_Z163:Sig:=⟨[(false,1)],[],o_Z163,[(false,1)],[.deep],[(.ptr yS)]⟩
abbrev o_Z164:Ty:=(.cons yI .nil)
def sg_Z164:Sig:=⟨[(false,1),(false,1)],[],o_Z164,[(false,1)],[],[(.ptr yS)]⟩
abbrev o_Z157:Ty:=yM
def sg_Z157:Sig:=⟨[(false,1),(false,1),(false,1)],[],o_Z157,[(true,4)],[.imm,.imm,.imm,.deep],[(.ptr yS)]⟩
abbrev o_Z168:Ty:=yC
def sg_Z168:Sig:=⟨[(false,1),(false,1),(false,1),(false,1)],[],o_Z168,[(false,1)],[.deep],[(.ptr yM)]⟩
abbrev o_Z170:Ty:=(.cons yI .nil)
def sg_Z170:Sig:=⟨[(false,1),(false,1)],[],o_Z170,[(false,1)],[],[(.ptr yS)]⟩
abbrev o_Z15:Ty:=(.cons .bool .nil)
def sg_Z15:Sig:=⟨[(false,1)],[],o_Z15,[(false,1)],[],[]⟩
abbrev o_Z26:Ty:=(.cons yI .nil)
def sg_Z26:Sig:=⟨[(false,1),(false,1)],[],o_Z26,[(false,1)],[],[]⟩
abbrev o_Z106:Ty:=(.cons .bool .nil)
def sg_Z106:Sig:=⟨[(false,1),(false,1)],[],o_Z106,[(false,1)],[],[]⟩
abbrev o_Z34:Ty:=yC
def sg_Z34:Sig:=⟨[(false,1)],[],o_Z34,[(false,1)],[.deep],[]⟩
abbrev o_Z11:Ty:=(.cons .bool .nil)
def sg_Z11:Sig:=⟨[(false,1),(false,1),(false,1)],[],o_Z11,[(false,1)],[],[.nil,(.ptr yC),(.ptr (.cons yI .nil))]⟩
abbrev o_Z45:Ty:=(.cons yI .nil)
def sg_Z45:Sig:=⟨[(true,1),(false,1)],[],o_Z45,[(false,1)],[],[]⟩
abbrev o_Z108:Ty:=(.cons .bool .nil)
def sg_Z108:Sig:=⟨[(false,1),(false,1)],[],o_Z108,[(false,1)],[],[]⟩
abbrev o_Z22:Ty:=(.cons .bool .nil)
def sg_Z22:Sig:=⟨[(false,1)],[],o_Z22,[(false,1)],[],[]⟩
abbrev o_Z12:Ty:=(.cons .bool .nil)
def sg_Z12:Sig:=⟨[(true,4)],[],o_Z12,[(false,1)],[],[]⟩
abbrev o_Z25:Ty:=yC
def sg_Z25:Sig:=⟨[(true,4)],[],o_Z25,[(false,1)],[.deep],[]⟩
abbrev o_Z35:Ty:=yM
def sg_Z35:Sig:=⟨[(false,1),(false,1),(false,1),(false,1)],[],o_Z35,[(true,4)],[.imm,.imm,.imm,.deep],[]⟩
abbrev o_Z58:Ty:=(.cons yI .nil)
def sg_Z58:Sig:=⟨[(false,1),(false,1),(false,1),(false,1)],[],o_Z58,[(false,1)],[],[.nil,.nil,(.ptr yM),(.ptr yC)]⟩
abbrev o_Z30:Ty:=(.cons yI .nil)
def sg_Z30:Sig:=⟨[(false,1),(false,1),(false,1)],[],o_Z30,[(false,1)],[],[]⟩
abbrev o_Z8:Ty:=(.cons yL .nil)
def sg_Z8:Sig:=⟨[(true,4),(false,1)],[],o_Z8,[(false,1)],[],[]⟩
abbrev o_Z42:Ty:=(.cons yI .nil)
def sg_Z42:Sig:=⟨[(true,4),(false,1)],[],o_Z42,[(false,1)],[],[]⟩
abbrev o_Z113:Ty:=(.cons .bool .nil)
def sg_Z113:Sig:=⟨[(false,1),(false,1)],[],o_Z113,[(false,1)],[],[]⟩
abbrev o_Z115:Ty:=(.cons yI .nil)
def sg_Z115:Sig:=⟨[(false,1),(false,1)],[],o_Z115,[(false,1)],[],[]⟩
abbrev o_Z32:Ty:=(.cons .bool .nil)
def sg_Z32:Sig:=⟨[(false,1),(false,1)],[],o_Z32,[(false,1)],[],[.nil,(.ptr (.cons yI .nil))]⟩
abbrev o_Z17:Ty:=(.cons yL .nil)
def sg_Z17:Sig:=⟨[(false,1),(false,1),(false,1),(false,1)],[],o_Z17,[(false,1)],[.deep],[]⟩
abbrev o_Z46:Ty:=(.cons yI .nil)
def sg_Z46:Sig:=⟨[(false,1),(false,1)],[],o_Z46,[(false,1)],[],[]⟩
abbrev o_Z123:Ty:=(.cons yI .nil)
def sg_Z123:Sig:=⟨[(false,1),(false,1)],[],o_Z123,[(false,1)],[],[]⟩
abbrev o_Z63:Ty:=(.cons yL .nil)
def sg_Z63:Sig:=⟨[(true,1),(false,1)],[],o_Z63,[(false,1)],[.deep],[]⟩
abbrev o_Z74:Ty:=yM
def sg_Z74:Sig:=⟨[(false,1),(false,1),(false,1)],[],o_Z74,[(true,4)],[.imm,.imm,.imm,.deep],[]⟩
abbrev o_Z7:Ty:=(.cons yI .nil)
def sg_Z7:Sig:=⟨[(true,4),(false,1),(false,1)],[],o_Z7,[(false,1)],[],[]⟩
abbrev o_Z18:Ty:=(.cons yI .nil)
def sg_Z18:Sig:=⟨[(false,1),(false,1)],[],o_Z18,[(false,1)],[],[]⟩
abbrev o_Z69:Ty:=yM
def sg_Z69:Sig:=⟨[(false,1),(false,1)],[],o_Z69,[(true,4)],[.imm,.imm,.imm,.deep],[]⟩
abbrev o_Z118:Ty:=(.cons yI .nil)
def sg_Z118:Sig:=⟨[(false,1),(false,1)],[],o_Z118,[(false,1)],[],[]⟩
abbrev o_Z61:Ty:=(.cons .bool .nil)
def sg_Z61:Sig:=⟨[(false,1),(false,1)],[],o_Z61,[(false,1)],[],[.nil,(.ptr (.cons yL .nil))]⟩
abbrev o_Z105:Ty:=(.cons yL .nil)
def sg_Z105:Sig:=⟨[(false,1)],[],o_Z105,[(false,1)],[.deep],[]⟩
abbrev o_Z129:Ty:=(.cons .bool .nil)
def sg_Z129:Sig:=⟨[(false,1),(false,1),(false,1)],[],o_Z129,[(false,1)],[],[]⟩
abbrev o_Z130:Ty:=(.cons .bool .nil)
def sg_Z130:Sig:=⟨[(false,1),(false,1)],[],o_Z130,[(false,1)],[],[]⟩
abbrev o_Z142:Ty:=yM
def sg_Z142:Sig:=⟨[(false,1),(false,1),(false,1)],[],o_Z142,[(true,4)],[.imm,.imm,.imm,.deep],[]⟩
abbrev o_Z138:Ty:=(.cons yI (.cons yI (.cons yI (.cons yL (.cons yL (.cons yI .nil))))))
def sg_Z138:Sig:=⟨[(false,1)],[],o_Z138,[(true,4),(false,1),(false,1)],[.imm,.imm,.imm,.deep,.deep,.imm],[(.ptr yM)]⟩
abbrev o_Z126:Ty:=(.cons .bool .nil)
def sg_Z126:Sig:=⟨[(false,1),(false,1)],[],o_Z126,[(false,1)],[],[]⟩
abbrev o_Z136:Ty:=(.cons yI .nil)
def sg_Z136:Sig:=⟨[(false,1),(false,1)],[],o_Z136,[(false,1)],[],[]⟩
abbrev o_Z171:Ty:=yC
def sg_Z171:Sig:=⟨[(false,1),(false,1),(false,1)],[],o_Z171,[(false,1)],[.deep],[]⟩
abbrev o_Z141:Ty:=yM
def sg_Z141:Sig:=⟨[(false,1),(false,1)],[],o_Z141,[(true,4)],[.imm,.imm,.imm,.deep],[]⟩
abbrev o_Z50:Ty:=(.cons .bool .nil)
def sg_Z50:Sig:=⟨[(false,1)],[],o_Z50,[(false,1)],[],[]⟩
abbrev o_Z16:Ty:=(.cons .bool .nil)
def sg_Z16:Sig:=⟨[(false,1)],[],o_Z16,[(false,1)],[],[]⟩
abbrev o_Z52:Ty:=(.cons .bool .nil)
def sg_Z52:Sig:=⟨[(false,1)],[],o_Z52,[(false,1)],[],[]⟩
abbrev o_Z2:Ty:=(.cons yI .nil)
def sg_Z2:Sig:=⟨[(false,1)],[],o_Z2,[(false,1)],[],[]⟩
abbrev o_Z0:Ty:=(.cons yI .nil)
def sg_Z0:Sig:=⟨[(false,1),(false,1)],[],o_Z0,[(false,1)],[],[]⟩
abbrev o_Z104:Ty:=(.cons yI .nil)
def sg_Z104:Sig:=⟨[(false,1),(false,1)],[],o_Z104,[(false,1)],[],[]⟩
abbrev o_Z101:Ty:=(.cons yI (.cons .bool .nil))
def sg_Z101:Sig:=⟨[(false,1),(false,1),(false,1)],[],o_Z101,[(false,1),(false,1)],[],[]⟩
abbrev o_Z51:Ty:=(.cons .bool .nil)
def sg_Z51:Sig:=⟨[(false,1)],[],o_Z51,[(false,1)],[],[]⟩
abbrev o_Z19:Ty:=(.cons .bool .nil)
def sg_Z19:Sig:=⟨[(false,1),(false,1)],[],o_Z19,[(false,1)],[],[]⟩
abbrev o_Z67:Ty:=yM
def sg_Z67:Sig:=⟨[(true,4)],[],o_Z67,[(true,4)],[.imm,.imm,.imm,.deep],[]⟩
abbrev o_Z56:Ty:=(.cons yI .nil)
def sg_Z56:Sig:=⟨[(false,1),(false,1),(false,1)],[],o_Z56,[(false,1)],[],[]⟩
abbrev o_Z75:Ty:=(.cons yI .nil)
def sg_Z75:Sig:=⟨[(false,1),(false,1)],[],o_Z75,[(false,1)],[],[]⟩
abbrev o_Z70:Ty:=(.cons yI .nil)
def sg_Z70:Sig:=⟨[(false,1),(false,1)],[],o_Z70,[(false,1)],[],[]⟩
abbrev o_Z114:Ty:=(.cons yL .nil)
def sg_Z114:Sig:=⟨[(false,1),(false,1)],[.take true,.imm],o_Z114,[(false,1)],[.deep],[]⟩
abbrev o_Z134:Ty:=(.cons yI .nil)
def sg_Z134:Sig:=⟨[(false,1),(false,1)],[],o_Z134,[(false,1)],[],[]⟩
abbrev o_Z131:Ty:=(.cons yL .nil)
def sg_Z131:Sig:=⟨[(false,1),(false,1),(false,1),(false,1)],[],o_Z131,[(false,1)],[.deep],[]⟩
abbrev o_Z3:Ty:=(.cons .bool .nil)
def sg_Z3:Sig:=⟨[(false,1)],[],o_Z3,[(false,1)],[],[]⟩
abbrev o_Z1:Ty:=(.cons yI .nil)
def sg_Z1:Sig:=⟨[(false,1),(false,1)],[],o_Z1,[(false,1)],[],[]⟩
abbrev o_Z20:Ty:=(.cons .bool .nil)
def sg_Z20:Sig:=⟨[(false,1),(false,1)],[],o_Z20,[(false,1)],[],[.nil,(.ptr (.cons yI .nil))]⟩
abbrev o_Z49:Ty:=(.cons .bool .nil)
def sg_Z49:Sig:=⟨[(false,1),(false,1)],[],o_Z49,[(false,1)],[],[]⟩
abbrev o_Z68:Ty:=(.cons yI .nil)
def sg_Z68:Sig:=⟨[(false,1),(false,1),(false,1)],[],o_Z68,[(false,1)],[],[.nil,.nil,(.ptr yM)]⟩
abbrev o_Z4:Ty:=(.cons .bool .nil)
def sg_Z4:Sig:=⟨[(false,1)],[],o_Z4,[(false,1)],[],[]⟩
def pol_Z76:Pol:=⟨110,[(29,[some 106,none,some 107,some 108]),(33,[some 109])],[],[],[(1000044,⟨[1,2,6,7,8,9,10,44],[2,8,106,107,108,109],[],[],[],[],[]⟩),(1000065,⟨[1,2,6,7,9,65],[2,109],[],[],[],[],[]⟩),(1000092,⟨[9,12,92],[109],[],[],[],[],[]⟩)],[]⟩
def pol_Z94:Pol:=⟨29,[],[],[],[],[]⟩
def pol_Z124:Pol:=⟨55,[(43,[some 54])],[(7,⟨[6],[17,53],[],[(17,3,53,yI,true)],[],[],[(17,0)]⟩)],[],[],[]⟩
def pol_Z100:Pol:=⟨27,[(6,[some 24]),(13,[some 25]),(17,[some 26])],[],[],[],[]⟩
def pol_Z5:Pol:=⟨51,[(29,[some 50]),(41,[some 50])],[(8,⟨[2,6,7,24,25],[2,6],[],[],[],[],[]⟩),(11,⟨[2,6,7,9,10,24,25],[2,6,50],[],[],[],[],[]⟩)],[],[],[]⟩
def pol_Z78:Pol:=⟨28,[],[(4,⟨[0,1,5],[],[],[],[],[],[]⟩)],[],[],[]⟩
def pol_Z82:Pol:=⟨36,[],[],[],[],[]⟩
def pol_Z88:Pol:=⟨23,[],[],[],[],[]⟩
def pol_Z85:Pol:=⟨21,[],[(2,⟨[0,1,5],[19],[],[],[],[],[]⟩)],[],[],[]⟩
def pol_Z83:Pol:=⟨23,[],[(2,⟨[0,1,5],[],[],[],[],[],[]⟩)],[],[],[]⟩
def pol_Z89:Pol:=⟨14,[],[],[],[],[]⟩
def pol_Z90:Pol:=⟨14,[],[],[],[],[]⟩
def pol_Z93:Pol:=⟨29,[],[(5,⟨[0,1,5],[],[],[],[],[],[]⟩)],[],[],[]⟩
def pol_Z153:Pol:=⟨18,[],[],[],[],[]⟩
def pol_Z127:Pol:=⟨18,[],[],[],[],[]⟩
def pol_Z148:Pol:=⟨35,[],[(3,⟨[0,1,5,6],[7],[],[],[],[],[]⟩)],[],[],[]⟩
def pol_Z169:Pol:=⟨93,[],[(8,⟨[0,5],[89,91],[],[],[],[],[]⟩)],[],[(1000058,⟨[0,5,58],[89,91],[],[],[],[],[]⟩)],[]⟩
def pol_Z128:Pol:=⟨7,[],[],[],[],[]⟩
def pol_Z95:Pol:=⟨11,[(6,[some 10])],[],[],[],[]⟩
def pol_Z96:Pol:=⟨23,[],[(3,⟨[0,3,4],[7],[],[],[],[],[]⟩)],[],[],[]⟩
def pol_Z99:Pol:=⟨25,[(20,[none,none,none,some 24])],[(3,⟨[0,3,4],[7],[],[],[],[],[]⟩)],[],[],[]⟩
def pol_Z6:Pol:=⟨21,[],[],[],[],[]⟩
def pol_Z48:Pol:=⟨6,[],[],[],[],[]⟩
def pol_Z65:Pol:=⟨6,[],[],[],[],[]⟩
def pol_Z71:Pol:=⟨25,[],[(3,⟨[3,7,8,9],[21],[(3,21,yI,true)],[],[],[],[]⟩)],[],[],[]⟩
def pol_Z40:Pol:=⟨16,[],[(3,⟨[3,5,6],[12],[(3,12,yI,true)],[],[],[],[]⟩)],[],[],[]⟩
def pol_Z28:Pol:=⟨19,[],[],[],[],[]⟩
def pol_Z44:Pol:=⟨15,[],[],[],[],[]⟩
def pol_Z55:Pol:=⟨52,[(29,[some 51])],[(3,⟨[0,1,6,7],[],[],[],[],[],[]⟩),(8,⟨[0,6,7,8,9],[51],[],[],[],[],[]⟩)],[],[],[]⟩
def pol_Z77:Pol:=⟨13,[],[],[],[],[]⟩
def pol_Z81:Pol:=⟨29,[],[(4,⟨[0,1,5],[],[],[],[],[],[]⟩)],[],[],[]⟩
def pol_Z84:Pol:=⟨12,[],[],[],[],[]⟩
def pol_Z91:Pol:=⟨29,[],[(5,⟨[0,1,5],[],[],[],[],[],[]⟩)],[],[],[]⟩
def pol_Z92:Pol:=⟨17,[],[],[],[],[]⟩
def pol_Z155:Pol:=⟨93,[],[(4,⟨[0,3],[],[],[],[],[],[]⟩),(7,⟨[0,3,4],[],[],[],[],[],[]⟩)],[],[(1000040,⟨[0,40],[],[],[],[],[],[]⟩),(1000073,⟨[0,3,4,73],[],[],[],[],[],[]⟩)],[]⟩
def pol_Z161:Pol:=⟨62,[],[(2,⟨[0,5],[],[],[],[],[],[]⟩),(6,⟨[0,5,6,7],[],[],[],[],[],[]⟩),(9,⟨[0,5,6,7,8],[],[],[],[],[],[]⟩)],[],[(1000036,⟨[0,5,6,7,36],[],[],[],[],[],[]⟩)],[]⟩
def pol_Z165:Pol:=⟨18,[],[],[],[],[]⟩
def pol_Z97:Pol:=⟨25,[(20,[some 24])],[(3,⟨[0,3,4],[7],[],[],[],[],[]⟩)],[],[],[]⟩
def pol_Z98:Pol:=⟨23,[(15,[some 22])],[],[],[],[]⟩
def pol_Z14:Pol:=⟨73,[],[(5,⟨[1,3,27,28,29],[1],[],[],[],[],[]⟩)],[],[(1000023,⟨[1,23],[1],[],[],[],[],[]⟩),(1000061,⟨[1,3,27,28,29,61],[1],[],[],[],[],[]⟩)],[]⟩
def pol_Z73:Pol:=⟨90,[],[(2,⟨[1,15,16,17],[1],[],[],[],[],[]⟩),(8,⟨[1,6,7,8,15,16,17,31,32],[1],[],[],[],[],[]⟩),(11,⟨[1,6,7,8,9,10,15,16,17,31,32],[1],[],[],[],[],[]⟩)],[],[(14,⟨[1,6,7,8,9,10,11,15,16,17,31,32],[1,11],[],[],[],[],[]⟩),(15,⟨[1,6,7,8,9,10,11,12,15,16,17,31,32],[1,11,12],[],[],[],[],[]⟩)],[]⟩
def pol_Z72:Pol:=⟨18,[],[],[],[],[]⟩
def pol_Z64:Pol:=⟨6,[],[],[],[],[]⟩
def pol_Z53:Pol:=⟨69,[(12,[some 68])],[(5,⟨[1,3,4,6,23,24],[1,61,68],[(6,61,yL,true)],[],[],[],[]⟩),(11,⟨[1,3,4,6,7,8,23,24,36,37,38],[1,32,61,68],[],[],[],[],[]⟩)],[],[],[]⟩
def pol_Z27:Pol:=⟨64,[(17,[some 62]),(56,[none,none,none,some 63])],[(4,⟨[2,4,5,6,18,19,20],[2,4,62],[],[],[],[],[]⟩),(8,⟨[2,4,5,6,9,18,19,20,31,32,33],[2,4,62],[],[],[],[],[]⟩)],[],[],[]⟩
def pol_Z103:Pol:=⟨9,[],[],[],[(1000004,⟨[0,4],[],[],[],[],[],[]⟩)],[]⟩
def pol_Z79:Pol:=⟨29,[],[(4,⟨[0,1,5],[],[],[],[],[],[]⟩)],[],[],[]⟩
def pol_Z80:Pol:=⟨34,[],[],[],[],[]⟩
def pol_Z149:Pol:=⟨66,[],[(4,⟨[0,3],[],[],[],[],[],[]⟩),(10,⟨[0,3,4,5],[],[],[],[],[],[]⟩)],[],[(1000047,⟨[0,3,4,47],[],[],[],[],[],[]⟩),(1000056,⟨[0,3,4,5,56],[],[],[],[],[],[]⟩)],[]⟩
def pol_Z125:Pol:=⟨6,[],[],[],[],[]⟩
def pol_Z158:Pol:=⟨25,[],[(4,⟨[0,1,5],[],[],[],[],[],[]⟩)],[],[],[]⟩
def pol_Z151:Pol:=⟨11,[],[],[],[],[]⟩
def pol_Z154:Pol:=⟨63,[],[],[],[],[]⟩
def pol_Z156:Pol:=⟨39,[],[(3,⟨[0,1,2,7,8],[],[],[],[],[],[]⟩)],[],[],[]⟩
def pol_Z160:Pol:=⟨37,[(31,[none,none,none,some 36])],[],[],[(4,⟨[0,1,2,3,8,9],[8],[],[],[],[],[]⟩)],[]⟩
def pol_Z139:Pol:=⟨76,[],[(4,⟨[0,1,5],[],[],[],[],[],[]⟩)],[],[(1000049,⟨[0,1,49],[],[],[],[],[],[]⟩)],[]⟩
def pol_Z167:Pol:=⟨17,[(12,[some 16])],[],[],[],[]⟩
def pol_Z162:Pol:=⟨12,[],[],[],[],[]⟩
def pol_Z166:Pol:=⟨45,[(13,[some 44]),(38,[some 43])],[(4,⟨[0,1,5,6,7],[44],[],[],[],[],[]⟩)],[],[],[]⟩
def pol_Z10:Pol:=⟨41,[],[(2,⟨[1,6,7,8],[1],[],[],[1],[],[]⟩)],[],[(1000030,⟨[1,3,4,6,7,8,30],[1,3],[],[],[],[],[]⟩)],[]⟩
def pol_Z13:Pol:=⟨19,[],[(4,⟨[0,3],[],[],[],[],[],[]⟩)],[],[],[]⟩
def pol_Z21:Pol:=⟨28,[],[(4,⟨[1,2,16],[2],[],[],[],[],[]⟩)],[],[(1000015,⟨[1,2,15],[2],[],[],[],[],[]⟩)],[]⟩
def pol_Z23:Pol:=⟨33,[],[(3,⟨[1,3,9,10],[1,28],[(3,28,(.st (.cons yI (.cons yI (.cons yI .nil)))),true)],[],[],[],[]⟩),(6,⟨[1,3,4,9,10,15,16,17],[1,28],[(3,28,(.st (.cons yI (.cons yI (.cons yI .nil)))),true)],[],[],[],[]⟩)],[],[],[]⟩
def pol_Z47:Pol:=⟨36,[],[],[],[],[]⟩
def pol_Z33:Pol:=⟨29,[],[(3,⟨[2,5,13,14,15],[2,24],[(5,24,yI,true)],[],[],[],[]⟩)],[],[],[]⟩
def pol_Z57:Pol:=⟨25,[(15,[none,none,none,some 24])],[],[],[],[]⟩
def pol_Z29:Pol:=⟨22,[],[],[],[],[]⟩
def pol_Z9:Pol:=⟨39,[],[],[],[],[]⟩
def pol_Z62:Pol:=⟨24,[(14,[some 23])],[(3,⟨[1,3,6,7],[1,16],[(3,16,yL,true)],[],[],[],[]⟩)],[],[],[]⟩
def pol_Z31:Pol:=⟨125,[(77,[some 123]),(110,[some 124])],[(4,⟨[0,1,2,8,9,16,17],[116,120],[(8,116,yI,true)],[],[],[],[]⟩),(17,⟨[0,1,2,8,9,10,11,16,17,79,80,81],[10,116,120],[],[],[],[],[]⟩)],[],[(13,⟨[0,1,2,8,9,10,11,16,17],[10,116,120],[],[],[],[],[]⟩),(16,⟨[0,1,2,8,9,10,11,16,17],[10,116,120],[],[],[],[],[]⟩),(1000095,⟨[0,1,2,8,9,10,11,14,15,16,17,79,80,81,95],[10,116,120],[],[],[],[],[]⟩)],[]⟩
def pol_Z112:Pol:=⟨11,[],[],[],[],[]⟩
def pol_Z59:Pol:=⟨14,[],[],[],[],[]⟩
def pol_Z66:Pol:=⟨31,[],[(3,⟨[2,5,11,12,13],[2],[],[],[],[],[]⟩)],[],[],[]⟩
def pol_Z24:Pol:=⟨103,[(24,[none,none,none,some 102])],[(3,⟨[1,2,4,5,29,30,31],[2,4,5,102],[],[],[],[],[]⟩),(7,⟨[1,2,4,5,7,29,30,31,40,41,42],[2,4,5,102],[],[],[],[],[]⟩),(12,⟨[1,2,4,5,7,8,10,11,12,29,30,31,40,41,42,58,59],[2,4,5,10,102],[],[],[],[],[]⟩),(15,⟨[1,2,4,5,7,8,10,11,12,13,29,30,31,40,41,42,58,59,63,64],[2,4,5,10,102],[],[],[],[],[]⟩)],[],[(2,⟨[1,2,4,5],[2,4,5,102],[],[],[],[],[]⟩),(22,⟨[4,5],[4,5,102],[],[],[],[],[]⟩)],[]⟩
def pol_Z43:Pol:=⟨20,[],[],[],[],[]⟩
def pol_Z60:Pol:=⟨59,[(20,[none,none,none,some 57]),(50,[none,none,none,some 58])],[],[],[],[]⟩
def pol_Z41:Pol:=⟨41,[],[(3,⟨[1,2,5,18,19,20],[2],[],[],[],[],[]⟩)],[],[],[]⟩
def pol_Z54:Pol:=⟨18,[(12,[some 17])],[],[],[],[]⟩
def pol_Z150:Pol:=⟨11,[],[],[],[],[]⟩
def pol_Z144:Pol:=⟨42,[],[(4,⟨[0,1,5],[],[],[],[],[],[]⟩)],[],[],[]⟩
def pol_Z147:Pol:=⟨27,[],[(2,⟨[0,1,5],[],[],[],[],[],[]⟩)],[],[],[]⟩
def pol_Z145:Pol:=⟨19,[(9,[some 18])],[],[],[],[]⟩
def pol_Z132:Pol:=⟨19,[],[(4,⟨[0,3],[],[],[],[],[],[]⟩)],[],[],[]⟩
def pol_Z133:Pol:=⟨29,[],[(2,⟨[0,1,2,7],[],[],[],[],[],[]⟩)],[],[],[]⟩
def pol_Z159:Pol:=⟨32,[],[(4,⟨[1,7,8,9],[],[],[],[],[],[]⟩)],[],[],[]⟩
def pol_Z146:Pol:=⟨38,[],[(4,⟨[0,5,6,7],[15],[],[],[],[],[]⟩)],[],[(1000024,⟨[0,5,6,7,24],[15],[],[],[],[],[]⟩)],[]⟩
def pol_Z137:Pol:=⟨43,[],[],[],[],[]⟩
def pol_Z140:Pol:=⟨99,[(22,[none,none,none,some 98])],[(3,⟨[0,1,4,5,6],[4,5,98],[],[],[],[],[]⟩),(6,⟨[0,1,4,5,6,7],[4,5,98],[],[],[],[],[]⟩),(10,⟨[0,1,4,5,6,7,8,9],[4,5,98],[],[],[],[],[]⟩)],[],[(2,⟨[0,1,4,5],[4,5,98],[],[],[],[],[]⟩)],[]⟩
def pol_Z152:Pol:=⟨21,[],[],[],[],[]⟩
def pol_Z143:Pol:=⟨33,[],[(3,⟨[2,6,7,8],[6,7,13],[],[],[],[],[]⟩)],[],[],[]⟩
def pol_Z135:Pol:=⟨72,[],[(4,⟨[0,3,4,6,7],[3,16],[],[],[],[],[]⟩),(10,⟨[0,3,4,6,7,8,9],[3,16,32],[],[],[],[],[]⟩)],[],[],[]⟩
def pol_Z163:Pol:=⟨74,[(69,[some 73])],[(5,⟨[0,3,4,5,6],[10],[],[],[],[],[]⟩)],[],[],[]⟩
def pol_Z164:Pol:=⟨20,[],[],[],[],[]⟩
def pol_Z157:Pol:=⟨69,[(24,[none,none,none,some 67]),(63,[none,none,none,some 68])],[(5,⟨[0,1,2,6,7,8],[6],[],[],[],[],[]⟩)],[],[],[]⟩
def pol_Z168:Pol:=⟨67,[],[(3,⟨[0,1,2,3,9,10],[13],[],[],[],[],[]⟩),(7,⟨[0,1,2,3,9,10,11,12],[13,23],[],[],[],[],[]⟩)],[],[],[]⟩
def pol_Z170:Pol:=⟨24,[],[(3,⟨[0,1,5,6],[],[],[],[],[],[]⟩)],[],[],[]⟩
def pol_Z15:Pol:=⟨21,[],[],[],[],[]⟩
def pol_Z26:Pol:=⟨17,[],[],[],[],[]⟩
def pol_Z106:Pol:=⟨11,[],[],[],[],[]⟩
def pol_Z34:Pol:=⟨29,[(22,[some 28])],[(3,⟨[0,3,6,7],[24],[(3,24,yL,true)],[],[],[],[]⟩)],[],[],[]⟩
def pol_Z11:Pol:=⟨16,[],[],[],[],[]⟩
def pol_Z45:Pol:=⟨19,[],[],[],[],[]⟩
def pol_Z108:Pol:=⟨11,[],[],[],[],[]⟩
def pol_Z22:Pol:=⟨7,[],[],[],[],[]⟩
def pol_Z12:Pol:=⟨38,[],[],[],[],[]⟩
def pol_Z25:Pol:=⟨11,[(5,[some 10])],[],[],[],[]⟩
def pol_Z35:Pol:=⟨40,[],[(3,⟨[2,3,8,9,16,17],[8,9,31],[],[(9,3,31,yI,true)],[],[],[]⟩),(6,⟨[2,3,8,9,10,16,17,20,21],[8,9,31],[],[(9,3,31,yI,true)],[],[],[]⟩)],[],[],[]⟩
def pol_Z58:Pol:=⟨21,[],[],[],[],[]⟩
def pol_Z30:Pol:=⟨32,[],[(3,⟨[0,1,2,7,10,11],[],[],[],[],[],[]⟩)],[],[],[]⟩
def pol_Z8:Pol:=⟨22,[],[],[],[],[]⟩
def pol_Z42:Pol:=⟨32,[],[(3,⟨[5,12,13,14],[],[],[],[],[],[]⟩)],[],[],[]⟩
def pol_Z113:Pol:=⟨28,[],[(4,⟨[0,1,12,13],[],[],[],[],[],[]⟩)],[],[],[]⟩
def pol_Z115:Pol:=⟨21,[],[(2,⟨[0,1,7,8],[],[],[],[],[],[]⟩)],[],[],[]⟩
def pol_Z32:Pol:=⟨11,[],[],[],[],[]⟩
def pol_Z17:Pol:=⟨38,[],[(3,⟨[0,1,2,3,9,12,13],[31],[(9,31,yI,true)],[],[],[],[]⟩)],[],[],[]⟩
def pol_Z46:Pol:=⟨12,[],[],[],[],[]⟩
def pol_Z123:Pol:=⟨21,[],[(2,⟨[0,1,7,8],[],[],[],[],[],[]⟩)],[],[],[]⟩
def pol_Z63:Pol:=⟨29,[],[(3,⟨[1,5,9,10,11],[24],[(5,24,yI,true)],[],[],[],[]⟩)],[],[],[]⟩
def pol_Z74:Pol:=⟨15,[(10,[none,none,none,some 14])],[],[],[],[]⟩
def pol_Z7:Pol:=⟨23,[],[],[],[],[]⟩
def pol_Z18:Pol:=⟨12,[],[],[],[],[]⟩
def pol_Z69:Pol:=⟨12,[(8,[none,none,none,some 11])],[],[],[],[]⟩
def pol_Z118:Pol:=⟨21,[],[(2,⟨[0,1,7,8],[],[],[],[],[],[]⟩)],[],[],[]⟩
def pol_Z61:Pol:=⟨10,[],[],[],[],[]⟩
def pol_Z105:Pol:=⟨38,[(24,[some 37])],[(3,⟨[0,3,9,10,11],[],[],[],[],[],[]⟩),(11,⟨[6,25,26,27],[37],[],[],[],[],[]⟩)],[],[],[]⟩
def pol_Z129:Pol:=⟨41,[],[(2,⟨[0,1,2,7],[],[],[],[],[],[]⟩)],[],[(1000037,⟨[0,1,2,7,37],[],[],[],[],[],[]⟩)],[]⟩
def pol_Z130:Pol:=⟨28,[],[(4,⟨[0,1,5],[],[],[],[],[],[]⟩)],[],[],[]⟩
def pol_Z142:Pol:=⟨18,[],[],[],[],[]⟩
def pol_Z138:Pol:=⟨248,[(37,[some 247])],[(8,⟨[0,2,5,6,7,8,9,10,11],[2,5,47,247],[],[],[],[],[]⟩),(11,⟨[0,2,5,6,7,8,9,10,11,12],[2,5,47,247],[],[],[],[],[]⟩),(17,⟨[0,2,5,6,7,8,9,10,11,12,13],[2,5,47,247],[],[],[],[],[]⟩),(26,⟨[0,2,5,6,7,8,9,10,11,16,17],[2,5,47,247],[],[],[],[],[]⟩),(30,⟨[0,2,5,6,7,8,9,10,11,18],[2,5,47,247],[],[],[],[],[]⟩),(35,⟨[0,2,5,6,7,8,9,10,11,18,19,20],[2,5,47,247],[],[],[],[],[]⟩)],[],[(2,⟨[0,2,5],[2,5,247],[],[],[],[],[]⟩),(22,⟨[0,2,5,6,7,8,9,10,11],[2,5,47,247],[],[],[],[],[]⟩),(1000058,⟨[0,2,5,6,7,8,9,10,11,58],[2,5,47,247],[],[],[],[],[]⟩),(1000079,⟨[0,2,5,6,7,8,9,10,11,12,79],[2,5,47,247],[],[],[],[],[]⟩),(1000200,⟨[0,2,5,6,7,8,9,10,11,18,19,200],[2,5,47,247],[],[],[],[],[]⟩)],[]⟩
def pol_Z126:Pol:=⟨20,[],[(2,⟨[0,1,5],[],[],[],[],[],[]⟩)],[],[],[]⟩
def pol_Z136:Pol:=⟨14,[],[],[],[],[]⟩
def pol_Z171:Pol:=⟨34,[(26,[some 33])],[(3,⟨[0,1,2,7,8],[9],[],[],[],[],[]⟩)],[],[],[]⟩
def pol_Z141:Pol:=⟨28,[(10,[none,none,none,some 27])],[(3,⟨[1,4,5,6],[4,5,27],[],[],[],[],[]⟩)],[],[],[]⟩
def pol_Z50:Pol:=⟨21,[],[(2,⟨[0,3],[],[],[],[],[],[]⟩)],[],[],[]⟩
def pol_Z16:Pol:=⟨7,[],[],[],[],[]⟩
def pol_Z52:Pol:=⟨6,[],[],[],[],[]⟩
def pol_Z2:Pol:=⟨19,[],[(3,⟨[3,6,7,8],[],[],[],[],[],[]⟩)],[],[],[]⟩
def pol_Z0:Pol:=⟨22,[],[],[],[],[]⟩
def pol_Z104:Pol:=⟨38,[],[(2,⟨[0,1,9,10,11],[],[],[],[],[],[]⟩)],[],[],[]⟩
def pol_Z101:Pol:=⟨52,[],[(3,⟨[0,1,2,8,9,10],[],[],[],[],[],[]⟩)],[],[],[]⟩
def pol_Z51:Pol:=⟨6,[],[],[],[],[]⟩
def pol_Z19:Pol:=⟨11,[],[],[],[],[]⟩
def pol_Z67:Pol:=⟨16,[(10,[none,none,none,some 15])],[],[],[],[]⟩
def pol_Z56:Pol:=⟨29,[],[(2,⟨[0,1,2,7],[],[],[],[],[],[]⟩)],[],[],[]⟩
def pol_Z75:Pol:=⟨7,[],[],[],[],[]⟩
def pol_Z70:Pol:=⟨10,[],[],[],[],[]⟩
def pol_Z134:Pol:=⟨21,[],[(3,⟨[0,1,5,6],[],[],[],[],[],[]⟩)],[],[],[]⟩
def pol_Z131:Pol:=⟨39,[],[(3,⟨[0,1,2,3,9,10],[11],[],[],[],[],[]⟩)],[],[],[]⟩
def pol_Z3:Pol:=⟨7,[],[],[],[],[]⟩
def pol_Z1:Pol:=⟨22,[],[],[],[],[]⟩
def pol_Z20:Pol:=⟨10,[],[],[],[],[]⟩
def pol_Z49:Pol:=⟨11,[],[],[],[],[]⟩
def pol_Z68:Pol:=⟨13,[],[],[],[],[]⟩
def pol_Z4:Pol:=⟨7,[],[],[],[],[]⟩
def sigL:List (Option Sig):=[none,none,none,some sg_Z76,some sg_Z94,some sg_Z124,some sg_Z100,some sg_Z5,some sg_Z78,some sg_Z82,some sg_Z88,some sg_Z85,some sg_Z83,some sg_Z89,some sg_Z90,some sg_Z93,some sg_Z153,some sg_Z127,some sg_Z148,some sg_Z169,some sg_Z128,some sg_Z95,some sg_Z96,some sg_Z99,some sg_Z6,some sg_Z48,some sg_Z65,some sg_Z71,some sg_Z40,some sg_Z28,some sg_Z44,some sg_Z55,some sg_Z77,some sg_Z81,some sg_Z84,some sg_Z87,some sg_Z91,some sg_Z92,some sg_Z155,some sg_Z161,some sg_Z165,some sg_Z97,some sg_Z98,some sg_Z14,some sg_Z73,some sg_Z72,some sg_Z64,some sg_Z53,some sg_Z27,some sg_Z103,some sg_Z79,some sg_Z80,some sg_Z86,some sg_Z149,some sg_Z125,some sg_Z158,some sg_Z151,some sg_Z154,some sg_Z156,some sg_Z160,some sg_Z139,some sg_Z167,some sg_Z162,some sg_Z166,some sg_Z10,some sg_Z13,some sg_Z21,some sg_Z23,some sg_Z47,some sg_Z33,some sg_Z57,some sg_Z29,some sg_Z9,some sg_Z62,some sg_Z31,some sg_Z112,some sg_Z59,some sg_Z66,some sg_Z24,some sg_Z43,some sg_Z60,some sg_Z41,some sg_Z54,some sg_Z150,some sg_Z144,some sg_Z147,some sg_Z145,some sg_Z132,some sg_Z133,some sg_Z159,some sg_Z146,some sg_Z137,some sg_Z140,some sg_Z152,some sg_Z143,some sg_Z135,some sg_Z163,some sg_Z164,some sg_Z157,some sg_Z168,some sg_Z170,some sg_Z15,some sg_Z26,some sg_Z106,some sg_Z34,some sg_Z11,some sg_Z45,some sg_Z108,some sg_Z22,some sg_Z12,some sg_Z25,some sg_Z35,some sg_Z58,some sg_Z30,some sg_Z8,some sg_Z42,some sg_Z113,some sg_Z115,some sg_Z32,some sg_Z17,some sg_Z46,some sg_Z123,some sg_Z63,some sg_Z74,some sg_Z7,some sg_Z18,some sg_Z69,some sg_Z118,some sg_Z61,some sg_Z105,some sg_Z129,some sg_Z130,some sg_Z142,some sg_Z138,some sg_Z126,some sg_Z136,some sg_Z171,some sg_Z141,some sg_Z50,some sg_Z16,some sg_Z52,some sg_Z2,some sg_Z0,some sg_Z104,some sg_Z101,some sg_Z51,some sg_Z19,some sg_Z67,some sg_Z56,some sg_Z75,some sg_Z70,some sg_Z114,some sg_Z134,some sg_Z131,some sg_Z3,some sg_Z1,some sg_Z20,some sg_Z49,some sg_Z68,some sg_Z4,none,none,none,none,none,none,none,none,none,none,none,none,none,none,none,none]
def fnL:List (Option (Func×Pol)):=[none,none,none,some (F_Z76,pol_Z76),some (F_Z94,pol_Z94),some (F_Z124,pol_Z124),some (F_Z100,pol_Z100),some (F_Z5,pol_Z5),some (F_Z78,pol_Z78),some (F_Z82,pol_Z82),some (F_Z88,pol_Z88),some (F_Z85,pol_Z85),some (F_Z83,pol_Z83),some (F_Z89,pol_Z89),some (F_Z90,pol_Z90),some (F_Z93,pol_Z93),some (F_Z153,pol_Z153),some (F_Z127,pol_Z127),some (F_Z148,pol_Z148),some (F_Z169,pol_Z169),some (F_Z128,pol_Z128),some (F_Z95,pol_Z95),some (F_Z96,pol_Z96),some (F_Z99,pol_Z99),some (F_Z6,pol_Z6),some (F_Z48,pol_Z48),some (F_Z65,pol_Z65),some (F_Z71,pol_Z71),some (F_Z40,pol_Z40),some (F_Z28,pol_Z28),some (F_Z44,pol_Z44),some (F_Z55,pol_Z55),some (F_Z77,pol_Z77),some (F_Z81,pol_Z81),some (F_Z84,pol_Z84),none,some (F_Z91,pol_Z91),some (F_Z92,pol_Z92),some (F_Z155,pol_Z155),some (F_Z161,pol_Z161),some (F_Z165,pol_Z165),some (F_Z97,pol_Z97),some (F_Z98,pol_Z98),some (F_Z14,pol_Z14),some (F_Z73,pol_Z73),some (F_Z72,pol_Z72),some (F_Z64,pol_Z64),some (F_Z53,pol_Z53),some (F_Z27,pol_Z27),some (F_Z103,pol_Z103),some (F_Z79,pol_Z79),some (F_Z80,pol_Z80),none,some (F_Z149,pol_Z149),some (F_Z125,pol_Z125),some (F_Z158,pol_Z158),some (F_Z151,pol_Z151),some (F_Z154,pol_Z154),some (F_Z156,pol_Z156),some (F_Z160,pol_Z160),some (F_Z139,pol_Z139),some (F_Z167,pol_Z167),some (F_Z162,pol_Z162),some (F_Z166,pol_Z166),some (F_Z10,pol_Z10),some (F_Z13,pol_Z13),some (F_Z21,pol_Z21),some (F_Z23,pol_Z23),some (F_Z47,pol_Z47),some (F_Z33,pol_Z33),some (F_Z57,pol_Z57),some (F_Z29,pol_Z29),some (F_Z9,pol_Z9),some (F_Z62,pol_Z62),some (F_Z31,pol_Z31),some (F_Z112,pol_Z112),some (F_Z59,pol_Z59),some (F_Z66,pol_Z66),some (F_Z24,pol_Z24),some (F_Z43,pol_Z43),some (F_Z60,pol_Z60),some (F_Z41,pol_Z41),some (F_Z54,pol_Z54),some (F_Z150,pol_Z150),some (F_Z144,pol_Z144),some (F_Z147,pol_Z147),some (F_Z145,pol_Z145),some (F_Z132,pol_Z132),some (F_Z133,pol_Z133),some (F_Z159,pol_Z159),some (F_Z146,pol_Z146),some (F_Z137,pol_Z137),some (F_Z140,pol_Z140),some (F_Z152,pol_Z152),some (F_Z143,pol_Z143),some (F_Z135,pol_Z135),some (F_Z163,pol_Z163),some (F_Z164,pol_Z164),some (F_Z157,pol_Z157),some (F_Z168,pol_Z168),some (F_Z170,pol_Z170),some (F_Z15,pol_Z15),some (F_Z26,pol_Z26),some (F_Z106,pol_Z106),some (F_Z34,pol_Z34),some (F_Z11,pol_Z11),some (F_Z45,pol_Z45),some (F_Z108,pol_Z108),some (F_Z22,pol_Z22),some (F_Z12,pol_Z12),some (F_Z25,pol_Z25),some (F_Z35,pol_Z35),some (F_Z58,pol_Z58),some (F_Z30,pol_Z30),some (F_Z8,pol_Z8),some (F_Z42,pol_Z42),some (F_Z113,pol_Z113),some (F_Z115,pol_Z115),some (F_Z32,pol_Z32),some (F_Z17,pol_Z17),some (F_Z46,pol_Z46),some (F_Z123,pol_Z123),some (F_Z63,pol_Z63),some (F_Z74,pol_Z74),some (F_Z7,pol_Z7),some (F_Z18,pol_Z18),some (F_Z69,pol_Z69),some (F_Z118,pol_Z118),some (F_Z61,pol_Z61),some (F_Z105,pol_Z105),some (F_Z129,pol_Z129),some (F_Z130,pol_Z130),some (F_Z142,pol_Z142),some (F_Z138,pol_Z138),some (F_Z126,pol_Z126),some (F_Z136,pol_Z136),some (F_Z171,pol_Z171),some (F_Z141,pol_Z141),some (F_Z50,pol_Z50),some (F_Z16,pol_Z16),some (F_Z52,pol_Z52),some (F_Z2,pol_Z2),some (F_Z0,pol_Z0),some (F_Z104,pol_Z104),some (F_Z101,pol_Z101),some (F_Z51,pol_Z51),some (F_Z19,pol_Z19),some (F_Z67,pol_Z67),some (F_Z56,pol_Z56),some (F_Z75,pol_Z75),some (F_Z70,pol_Z70),none,some (F_Z134,pol_Z134),some (F_Z131,pol_Z131),some (F_Z3,pol_Z3),some (F_Z1,pol_Z1),some (F_Z20,pol_Z20),some (F_Z49,pol_Z49),some (F_Z68,pol_Z68),some (F_Z4,pol_Z4),none,none,none,none,none,none,none,none,none,none,none,none,none,none,none,none]
def primL:List (Option (Run→List Dv→Option Dv)):=[none,none,none,none,none,none,none,none,none,none,none,none,none,none,none,none,none,none,none,none,none,none,none,none,none,none,none,none,none,none,none,none,none,none,none,some (qfF n_Z85),none,none,none,none,none,none,none,none,none,none,none,none,none,none,none,none,some (qfC n_Z85),none,none,none,none,none,none,none,none,none,none,none,none,none,none,none,none,none,none,none,none,none,none,none,none,none,none,none,none,none,none,none,none,none,none,none,none,none,none,none,none,none,none,none,none,none,none,none,none,none,none,none,none,none,none,none,none,none,none,none,none,none,none,none,none,none,none,none,none,none,none,none,none,none,none,none,none,none,none,none,none,none,none,none,none,none,none,none,none,none,none,none,none,none,none,none,none,none,none,some (qmD yI),none,none,none,none,none,none,none,none,none,none,none,none,none,none,none,none,none,none,none,none,none,none,none,none]
def E:Env:={ P:=Tryz.prog,fn:=fun f=>fnL.getD f none,prim:=fun f=>primL.getD f none,sig:=fun f=>sigL.getD f none }
theorem sig_laws_FnExactFewestVertices_eq:E.sig n_Z76=some sg_Z76:=rfl
abbrev RT(f:Nat)(s:Sig)(q:Pol)(F:Func):Prop:=∀ n args,run E (n+1) f args=qqq E (mkR (run E n)) s q F n args
theorem run_Z76:RT n_Z76 sg_Z76 pol_Z76 F_Z76:=fun _ _=>rfl
theorem run_Z94:RT n_Z94 sg_Z94 pol_Z94 F_Z94:=fun _ _=>rfl
theorem run_Z124:RT n_Z124 sg_Z124 pol_Z124 F_Z124:=fun _ _=>rfl
theorem run_Z100:RT n_Z100 sg_Z100 pol_Z100 F_Z100:=fun _ _=>rfl
theorem run_Z5:RT n_Z5 sg_Z5 pol_Z5 F_Z5:=fun _ _=>rfl
theorem run_Z78:RT n_Z78 sg_Z78 pol_Z78 F_Z78:=fun _ _=>rfl
theorem run_Z82:RT n_Z82 sg_Z82 pol_Z82 F_Z82:=fun _ _=>rfl
theorem run_Z88:RT n_Z88 sg_Z88 pol_Z88 F_Z88:=fun _ _=>rfl
theorem sig_laws_markInt64S_eq:E.sig n_Z85=some sg_Z85:=rfl
theorem run_Z85:RT n_Z85 sg_Z85 pol_Z85 F_Z85:=fun _ _=>rfl
theorem run_Z83:RT n_Z83 sg_Z83 pol_Z83 F_Z83:=fun _ _=>rfl
theorem run_Z89:RT n_Z89 sg_Z89 pol_Z89 F_Z89:=fun _ _=>rfl
theorem run_Z90:RT n_Z90 sg_Z90 pol_Z90 F_Z90:=fun _ _=>rfl
theorem run_Z93:RT n_Z93 sg_Z93 pol_Z93 F_Z93:=fun _ _=>rfl
theorem run_Z153:RT n_Z153 sg_Z153 pol_Z153 F_Z153:=fun _ _=>rfl
theorem run_Z127:RT n_Z127 sg_Z127 pol_Z127 F_Z127:=fun _ _=>rfl
theorem run_Z148:RT n_Z148 sg_Z148 pol_Z148 F_Z148:=fun _ _=>rfl
theorem run_Z169:RT n_Z169 sg_Z169 pol_Z169 F_Z169:=fun _ _=>rfl
theorem run_Z128:RT n_Z128 sg_Z128 pol_Z128 F_Z128:=fun _ _=>rfl
theorem run_Z95:RT n_Z95 sg_Z95 pol_Z95 F_Z95:=fun _ _=>rfl
theorem run_Z96:RT n_Z96 sg_Z96 pol_Z96 F_Z96:=fun _ _=>rfl
theorem run_Z99:RT n_Z99 sg_Z99 pol_Z99 F_Z99:=fun _ _=>rfl
theorem run_Z6:RT n_Z6 sg_Z6 pol_Z6 F_Z6:=fun _ _=>rfl
theorem run_Z48:RT n_Z48 sg_Z48 pol_Z48 F_Z48:=fun _ _=>rfl
theorem run_Z65:RT n_Z65 sg_Z65 pol_Z65 F_Z65:=fun _ _=>rfl
theorem run_Z71:RT n_Z71 sg_Z71 pol_Z71 F_Z71:=fun _ _=>rfl
theorem run_Z40:RT n_Z40 sg_Z40 pol_Z40 F_Z40:=fun _ _=>rfl
theorem run_Z28:RT n_Z28 sg_Z28 pol_Z28 F_Z28:=fun _ _=>rfl
theorem run_Z44:RT n_Z44 sg_Z44 pol_Z44 F_Z44:=fun _ _=>rfl
theorem run_Z55:RT n_Z55 sg_Z55 pol_Z55 F_Z55:=fun _ _=>rfl
theorem run_Z77:RT n_Z77 sg_Z77 pol_Z77 F_Z77:=fun _ _=>rfl
theorem run_Z81:RT n_Z81 sg_Z81 pol_Z81 F_Z81:=fun _ _=>rfl
theorem run_Z84:RT n_Z84 sg_Z84 pol_Z84 F_Z84:=fun _ _=>rfl
theorem sig_laws_markMatrixS_eq:E.sig n_Z87=some sg_Z87:=rfl
theorem run_Z91:RT n_Z91 sg_Z91 pol_Z91 F_Z91:=fun _ _=>rfl
theorem run_Z92:RT n_Z92 sg_Z92 pol_Z92 F_Z92:=fun _ _=>rfl
theorem run_Z155:RT n_Z155 sg_Z155 pol_Z155 F_Z155:=fun _ _=>rfl
theorem run_Z161:RT n_Z161 sg_Z161 pol_Z161 F_Z161:=fun _ _=>rfl
theorem run_Z165:RT n_Z165 sg_Z165 pol_Z165 F_Z165:=fun _ _=>rfl
theorem run_Z97:RT n_Z97 sg_Z97 pol_Z97 F_Z97:=fun _ _=>rfl
theorem run_Z98:RT n_Z98 sg_Z98 pol_Z98 F_Z98:=fun _ _=>rfl
theorem run_Z14:RT n_Z14 sg_Z14 pol_Z14 F_Z14:=fun _ _=>rfl
theorem run_Z73:RT n_Z73 sg_Z73 pol_Z73 F_Z73:=fun _ _=>rfl
theorem run_Z72:RT n_Z72 sg_Z72 pol_Z72 F_Z72:=fun _ _=>rfl
theorem run_Z64:RT n_Z64 sg_Z64 pol_Z64 F_Z64:=fun _ _=>rfl
theorem run_Z53:RT n_Z53 sg_Z53 pol_Z53 F_Z53:=fun _ _=>rfl
theorem run_Z27:RT n_Z27 sg_Z27 pol_Z27 F_Z27:=fun _ _=>rfl
theorem run_Z103:RT n_Z103 sg_Z103 pol_Z103 F_Z103:=fun _ _=>rfl
theorem run_Z79:RT n_Z79 sg_Z79 pol_Z79 F_Z79:=fun _ _=>rfl
theorem run_Z80:RT n_Z80 sg_Z80 pol_Z80 F_Z80:=fun _ _=>rfl
theorem sig_laws_markInt64SS_eq:E.sig n_Z86=some sg_Z86:=rfl
theorem run_Z149:RT n_Z149 sg_Z149 pol_Z149 F_Z149:=fun _ _=>rfl
theorem run_Z125:RT n_Z125 sg_Z125 pol_Z125 F_Z125:=fun _ _=>rfl
theorem run_Z158:RT n_Z158 sg_Z158 pol_Z158 F_Z158:=fun _ _=>rfl
theorem run_Z151:RT n_Z151 sg_Z151 pol_Z151 F_Z151:=fun _ _=>rfl
theorem run_Z154:RT n_Z154 sg_Z154 pol_Z154 F_Z154:=fun _ _=>rfl
theorem run_Z156:RT n_Z156 sg_Z156 pol_Z156 F_Z156:=fun _ _=>rfl
theorem run_Z160:RT n_Z160 sg_Z160 pol_Z160 F_Z160:=fun _ _=>rfl
theorem run_Z139:RT n_Z139 sg_Z139 pol_Z139 F_Z139:=fun _ _=>rfl
theorem run_Z167:RT n_Z167 sg_Z167 pol_Z167 F_Z167:=fun _ _=>rfl
theorem run_Z162:RT n_Z162 sg_Z162 pol_Z162 F_Z162:=fun _ _=>rfl
theorem run_Z166:RT n_Z166 sg_Z166 pol_Z166 F_Z166:=fun _ _=>rfl
theorem run_Z10:RT n_Z10 sg_Z10 pol_Z10 F_Z10:=fun _ _=>rfl
theorem run_Z13:RT n_Z13 sg_Z13 pol_Z13 F_Z13:=fun _ _=>rfl
theorem run_Z21:RT n_Z21 sg_Z21 pol_Z21 F_Z21:=fun _ _=>rfl
theorem run_Z23:RT n_Z23 sg_Z23 pol_Z23 F_Z23:=fun _ _=>rfl
theorem run_Z47:RT n_Z47 sg_Z47 pol_Z47 F_Z47:=fun _ _=>rfl
theorem run_Z33:RT n_Z33 sg_Z33 pol_Z33 F_Z33:=fun _ _=>rfl
theorem run_Z57:RT n_Z57 sg_Z57 pol_Z57 F_Z57:=fun _ _=>rfl
theorem run_Z29:RT n_Z29 sg_Z29 pol_Z29 F_Z29:=fun _ _=>rfl
theorem run_Z9:RT n_Z9 sg_Z9 pol_Z9 F_Z9:=fun _ _=>rfl
theorem run_Z62:RT n_Z62 sg_Z62 pol_Z62 F_Z62:=fun _ _=>rfl
theorem run_Z31:RT n_Z31 sg_Z31 pol_Z31 F_Z31:=fun _ _=>rfl
theorem run_Z112:RT n_Z112 sg_Z112 pol_Z112 F_Z112:=fun _ _=>rfl
theorem run_Z59:RT n_Z59 sg_Z59 pol_Z59 F_Z59:=fun _ _=>rfl
theorem run_Z66:RT n_Z66 sg_Z66 pol_Z66 F_Z66:=fun _ _=>rfl
theorem run_Z24:RT n_Z24 sg_Z24 pol_Z24 F_Z24:=fun _ _=>rfl
theorem run_Z43:RT n_Z43 sg_Z43 pol_Z43 F_Z43:=fun _ _=>rfl
theorem run_Z60:RT n_Z60 sg_Z60 pol_Z60 F_Z60:=fun _ _=>rfl
theorem run_Z41:RT n_Z41 sg_Z41 pol_Z41 F_Z41:=fun _ _=>rfl
theorem run_Z54:RT n_Z54 sg_Z54 pol_Z54 F_Z54:=fun _ _=>rfl
theorem run_Z150:RT n_Z150 sg_Z150 pol_Z150 F_Z150:=fun _ _=>rfl
theorem run_Z144:RT n_Z144 sg_Z144 pol_Z144 F_Z144:=fun _ _=>rfl
theorem run_Z147:RT n_Z147 sg_Z147 pol_Z147 F_Z147:=fun _ _=>rfl
theorem run_Z145:RT n_Z145 sg_Z145 pol_Z145 F_Z145:=fun _ _=>rfl
theorem run_Z132:RT n_Z132 sg_Z132 pol_Z132 F_Z132:=fun _ _=>rfl
theorem run_Z133:RT n_Z133 sg_Z133 pol_Z133 F_Z133:=fun _ _=>rfl
theorem run_Z159:RT n_Z159 sg_Z159 pol_Z159 F_Z159:=fun _ _=>rfl
theorem run_Z146:RT n_Z146 sg_Z146 pol_Z146 F_Z146:=fun _ _=>rfl
theorem run_Z137:RT n_Z137 sg_Z137 pol_Z137 F_Z137:=fun _ _=>rfl
theorem run_Z140:RT n_Z140 sg_Z140 pol_Z140 F_Z140:=fun _ _=>rfl
theorem run_Z152:RT n_Z152 sg_Z152 pol_Z152 F_Z152:=fun _ _=>rfl
theorem run_Z143:RT n_Z143 sg_Z143 pol_Z143 F_Z143:=fun _ _=>rfl
theorem run_Z135:RT n_Z135 sg_Z135 pol_Z135 F_Z135:=fun _ _=>rfl
theorem run_Z163:RT n_Z163 sg_Z163 pol_Z163 F_Z163:=fun _ _=>rfl
theorem run_Z164:RT n_Z164 sg_Z164 pol_Z164 F_Z164:=fun _ _=>rfl
theorem run_Z157:RT n_Z157 sg_Z157 pol_Z157 F_Z157:=fun _ _=>rfl
theorem run_Z168:RT n_Z168 sg_Z168 pol_Z168 F_Z168:=fun _ _=>rfl
theorem run_Z170:RT n_Z170 sg_Z170 pol_Z170 F_Z170:=fun _ _=>rfl
theorem run_Z15:RT n_Z15 sg_Z15 pol_Z15 F_Z15:=fun _ _=>rfl
theorem run_Z26:RT n_Z26 sg_Z26 pol_Z26 F_Z26:=fun _ _=>rfl
theorem run_Z106:RT n_Z106 sg_Z106 pol_Z106 F_Z106:=fun _ _=>rfl
theorem run_Z34:RT n_Z34 sg_Z34 pol_Z34 F_Z34:=fun _ _=>rfl
theorem run_Z11:RT n_Z11 sg_Z11 pol_Z11 F_Z11:=fun _ _=>rfl
theorem run_Z45:RT n_Z45 sg_Z45 pol_Z45 F_Z45:=fun _ _=>rfl
theorem run_Z108:RT n_Z108 sg_Z108 pol_Z108 F_Z108:=fun _ _=>rfl
theorem run_Z22:RT n_Z22 sg_Z22 pol_Z22 F_Z22:=fun _ _=>rfl
theorem run_Z12:RT n_Z12 sg_Z12 pol_Z12 F_Z12:=fun _ _=>rfl
theorem run_Z25:RT n_Z25 sg_Z25 pol_Z25 F_Z25:=fun _ _=>rfl
theorem run_Z35:RT n_Z35 sg_Z35 pol_Z35 F_Z35:=fun _ _=>rfl
theorem run_Z58:RT n_Z58 sg_Z58 pol_Z58 F_Z58:=fun _ _=>rfl
theorem run_Z30:RT n_Z30 sg_Z30 pol_Z30 F_Z30:=fun _ _=>rfl
theorem run_Z8:RT n_Z8 sg_Z8 pol_Z8 F_Z8:=fun _ _=>rfl
theorem run_Z42:RT n_Z42 sg_Z42 pol_Z42 F_Z42:=fun _ _=>rfl
theorem run_Z113:RT n_Z113 sg_Z113 pol_Z113 F_Z113:=fun _ _=>rfl
theorem run_Z115:RT n_Z115 sg_Z115 pol_Z115 F_Z115:=fun _ _=>rfl
theorem run_Z32:RT n_Z32 sg_Z32 pol_Z32 F_Z32:=fun _ _=>rfl
theorem run_Z17:RT n_Z17 sg_Z17 pol_Z17 F_Z17:=fun _ _=>rfl
theorem run_Z46:RT n_Z46 sg_Z46 pol_Z46 F_Z46:=fun _ _=>rfl
theorem run_Z123:RT n_Z123 sg_Z123 pol_Z123 F_Z123:=fun _ _=>rfl
theorem run_Z63:RT n_Z63 sg_Z63 pol_Z63 F_Z63:=fun _ _=>rfl
theorem run_Z74:RT n_Z74 sg_Z74 pol_Z74 F_Z74:=fun _ _=>rfl
theorem run_Z7:RT n_Z7 sg_Z7 pol_Z7 F_Z7:=fun _ _=>rfl
theorem run_Z18:RT n_Z18 sg_Z18 pol_Z18 F_Z18:=fun _ _=>rfl
theorem run_Z69:RT n_Z69 sg_Z69 pol_Z69 F_Z69:=fun _ _=>rfl
theorem run_Z118:RT n_Z118 sg_Z118 pol_Z118 F_Z118:=fun _ _=>rfl
theorem run_Z61:RT n_Z61 sg_Z61 pol_Z61 F_Z61:=fun _ _=>rfl
theorem run_Z105:RT n_Z105 sg_Z105 pol_Z105 F_Z105:=fun _ _=>rfl
theorem run_Z129:RT n_Z129 sg_Z129 pol_Z129 F_Z129:=fun _ _=>rfl
theorem run_Z130:RT n_Z130 sg_Z130 pol_Z130 F_Z130:=fun _ _=>rfl
theorem run_Z142:RT n_Z142 sg_Z142 pol_Z142 F_Z142:=fun _ _=>rfl
theorem run_Z138:RT n_Z138 sg_Z138 pol_Z138 F_Z138:=fun _ _=>rfl
theorem run_Z126:RT n_Z126 sg_Z126 pol_Z126 F_Z126:=fun _ _=>rfl
theorem run_Z136:RT n_Z136 sg_Z136 pol_Z136 F_Z136:=fun _ _=>rfl
theorem run_Z171:RT n_Z171 sg_Z171 pol_Z171 F_Z171:=fun _ _=>rfl
theorem run_Z141:RT n_Z141 sg_Z141 pol_Z141 F_Z141:=fun _ _=>rfl
theorem run_Z50:RT n_Z50 sg_Z50 pol_Z50 F_Z50:=fun _ _=>rfl
theorem run_Z16:RT n_Z16 sg_Z16 pol_Z16 F_Z16:=fun _ _=>rfl
theorem run_Z52:RT n_Z52 sg_Z52 pol_Z52 F_Z52:=fun _ _=>rfl
theorem run_Z2:RT n_Z2 sg_Z2 pol_Z2 F_Z2:=fun _ _=>rfl
theorem run_Z0:RT n_Z0 sg_Z0 pol_Z0 F_Z0:=fun _ _=>rfl
theorem run_Z104:RT n_Z104 sg_Z104 pol_Z104 F_Z104:=fun _ _=>rfl
theorem run_Z101:RT n_Z101 sg_Z101 pol_Z101 F_Z101:=fun _ _=>rfl
theorem run_Z51:RT n_Z51 sg_Z51 pol_Z51 F_Z51:=fun _ _=>rfl
theorem run_Z19:RT n_Z19 sg_Z19 pol_Z19 F_Z19:=fun _ _=>rfl
theorem run_Z67:RT n_Z67 sg_Z67 pol_Z67 F_Z67:=fun _ _=>rfl
theorem run_Z56:RT n_Z56 sg_Z56 pol_Z56 F_Z56:=fun _ _=>rfl
theorem run_Z75:RT n_Z75 sg_Z75 pol_Z75 F_Z75:=fun _ _=>rfl
theorem run_Z70:RT n_Z70 sg_Z70 pol_Z70 F_Z70:=fun _ _=>rfl
theorem sig_slices_Grow_Sint64_int64_eq:E.sig n_Z114=some sg_Z114:=rfl
theorem run_Z134:RT n_Z134 sg_Z134 pol_Z134 F_Z134:=fun _ _=>rfl
theorem run_Z131:RT n_Z131 sg_Z131 pol_Z131 F_Z131:=fun _ _=>rfl
theorem run_Z3:RT n_Z3 sg_Z3 pol_Z3 F_Z3:=fun _ _=>rfl
theorem run_Z1:RT n_Z1 sg_Z1 pol_Z1 F_Z1:=fun _ _=>rfl
theorem run_Z20:RT n_Z20 sg_Z20 pol_Z20 F_Z20:=fun _ _=>rfl
theorem run_Z49:RT n_Z49 sg_Z49 pol_Z49 F_Z49:=fun _ _=>rfl
theorem run_Z68:RT n_Z68 sg_Z68 pol_Z68 F_Z68:=fun _ _=>rfl
theorem run_Z4:RT n_Z4 sg_Z4 pol_Z4 F_Z4:=fun _ _=>rfl
abbrev eC(R:Run)(q:Pol)(N:Nat)(l:List Nat)(F:Func):=qbJ E R q N (sub l (bodyOf F))
abbrev kB(R:Run)(q:Pol)(k:Nat)(K:Kt):=qqO (qgi R q.blkM k) k K
abbrev kS(R:Run)(q:Pol)(k N:Nat)(l:List Nat)(F:Func)(K:Kt):=qqR (qgi R q.seqM k) (qbJ E R q N (sub l (bodyOf F))) K
abbrev kL(R:Run)(q:Pol)(k N:Nat)(l:List Nat)(F:Func)(n:Nat)(K:Kt):=qqT (qbJ E R q N (sub l (bodyOf F))) (qgi R q.loopM k) n K
abbrev lC(R:Run)(q:Pol)(k N:Nat)(l:List Nat)(F:Func)(n:Nat)(s:Ve.St)(K:Kt):=qns (qbJ E R q N (sub l (bodyOf F))) (qgi R q.loopM k) n s K
end
end VeT

open Go Go.Proofs Ve
set_option maxRecDepth 100000
namespace VeT
noncomputable section
abbrev q0_0(R:Run)(N:Nat):=kS R pol_Z149 5 N [1,1,0,1,0,0,1,1] F_Z149
abbrev q0_1(R:Run)(N:Nat):=kS R pol_Z149 14 N [1,1,1] F_Z149
abbrev q0_2(R:Run)(N:Nat):=kS R pol_Z155 11 N [1,1,1] F_Z155
abbrev q0_3(R:Run)(N:Nat):=kS R pol_Z140 14 N [1,1,1] F_Z140
abbrev q0_4(R:Run)(N:Nat):=kS R pol_Z161 3 N [1,0,1,0,0,1,1] F_Z161
abbrev q0_5(R:Run)(N:Nat):=kS R pol_Z161 15 N [1,1] F_Z161
abbrev q0_6(R:Run)(N:Nat):=kL R pol_Z149 4 N [1,1,0,1,0,0] F_Z149
abbrev q0_7(R:Run)(N:Nat):=kL R pol_Z161 2 N [1,0,1,0,0] F_Z161
theorem Z90.ev(R:Run)(N:Nat)(a0:List Int)(a1:Int):qqq E R sg_Z90 pol_Z90 F_Z90 N [⟨yL,a0⟩,⟨yI,a1⟩]=(bif (decide ((w64 (a1-(List.length a0:Int)))<(0:Int))) then some ⟨o_Z90,((-1:Int),())⟩ else some ⟨o_Z90,((w64 (a1-(List.length a0:Int))),())⟩):=by kernel_rfl
def Z91.l0(R:Run)(N n:Nat)(a:vK)(b e:Int):Option Dv:=R.w (some ⟨(.c (.d yK a)::(.c (.d yI b)::(zd 3 (.c (.d yI e)::(zd 21 []))))),(zo 29 [])⟩) fun st=>lC R pol_Z91 5 N [1,1,1,0,1,0,0] F_Z91 n st (kB R pol_Z91 0 (kS R pol_Z91 10 N [1,1,1,1] F_Z91 (qqM E sg_Z91 F_Z91)))
theorem Z91.l0_succ(R:Run)(hw:R.ok)(N n:Nat)(a:vK)(b c:Int):Z91.l0 R N (n+1) a b c=(bif (decide (c<(List.length a:Int))) then((idx? a c).bind fun y4=>((qgL R n_Z90 o_Z90 [⟨yL,(y4,()).1⟩,⟨yI,b⟩]).bind fun r5=>(bif (decide (r5.1<(0:Int))) then some ⟨o_Z91,((-1:Int),())⟩ else(Z91.l0 R N n a r5.1 (w64 (c+1)))))) else some ⟨o_Z91,(b,())⟩):=(hw _ _).trans (by kernel_rfl)
theorem Z91.ev(R:Run)(N:Nat)(a0:vK)(a1:Int):qqq E R sg_Z91 pol_Z91 F_Z91 N [⟨yK,a0⟩,⟨yI,a1⟩]=(bif (decide ((w64 (a1-(List.length a0:Int)))<(0:Int))) then some ⟨o_Z91,((-1:Int),())⟩ else(Z91.l0 R N N a0 (w64 (a1-(List.length a0:Int))) (0:Int))):=by kernel_rfl
theorem Z89.ev(R:Run)(N:Nat)(a0:vK)(a1:Int):qqq E R sg_Z89 pol_Z89 F_Z89 N [⟨yK,a0⟩,⟨yI,a1⟩]=((qgL R n_Z91 o_Z91 [⟨yK,a0⟩,⟨yI,a1⟩]).bind fun r1=>(bif (decide (r1.1<(0:Int))) then some ⟨o_Z89,((-1:Int),())⟩ else some ⟨o_Z89,(r1.1,())⟩)):=by kernel_rfl
theorem Z92.ev(R:Run)(N:Nat)(a0 a1 a2:Int)(a3:List Int)(a4:Int):qqq E R sg_Z92 pol_Z92 F_Z92 N [⟨yI,a0⟩,⟨yI,a1⟩,⟨yI,a2⟩,⟨yL,a3⟩,⟨yI,a4⟩]=((qgL R n_Z90 o_Z90 [⟨yL,a3⟩,⟨yI,a4⟩]).bind fun r1=>(bif (decide (r1.1<(0:Int))) then some ⟨o_Z92,((-1:Int),())⟩ else some ⟨o_Z92,(r1.1,())⟩)):=by kernel_rfl
def Z93.l0(R:Run)(N n:Nat)(a:vN)(b e:Int):Option Dv:=R.w (some ⟨(.c (.d yN a)::(.c (.d yI b)::(zd 3 (.c (.d yI e)::(zd 21 []))))),(zo 29 [])⟩) fun st=>lC R pol_Z93 5 N [1,1,1,0,1,0,0] F_Z93 n st (kB R pol_Z93 0 (kS R pol_Z93 10 N [1,1,1,1] F_Z93 (qqM E sg_Z93 F_Z93)))
theorem Z93.l0_succ(R:Run)(hw:R.ok)(N n:Nat)(a:vN)(b c:Int):Z93.l0 R N (n+1) a b c=(bif (decide (c<(List.length a:Int))) then((idx? a c).bind fun y4=>((qgL R n_Z92 o_Z92 [⟨yI,y4.1⟩,⟨yI,y4.2.1⟩,⟨yI,y4.2.2.1⟩,⟨yL,y4.2.2.2.1⟩,⟨yI,b⟩]).bind fun r5=>(bif (decide (r5.1<(0:Int))) then some ⟨o_Z93,((-1:Int),())⟩ else(Z93.l0 R N n a r5.1 (w64 (c+1)))))) else some ⟨o_Z93,(b,())⟩):=(hw _ _).trans (by kernel_rfl)
theorem Z93.ev(R:Run)(N:Nat)(a0:vN)(a1:Int):qqq E R sg_Z93 pol_Z93 F_Z93 N [⟨yN,a0⟩,⟨yI,a1⟩]=(bif (decide ((w64 (a1-(List.length a0:Int)))<(0:Int))) then some ⟨o_Z93,((-1:Int),())⟩ else(Z93.l0 R N N a0 (w64 (a1-(List.length a0:Int))) (0:Int))):=by kernel_rfl
theorem Z94.ev(R:Run)(N:Nat)(a0:vK)(a1:Int)(a2:List Int)(a3:vN)(a4:Int):qqq E R sg_Z94 pol_Z94 F_Z94 N [⟨yK,a0⟩,⟨yI,a1⟩,⟨yL,a2⟩,⟨yN,a3⟩,⟨yI,a4⟩]=((qgL R n_Z89 o_Z89 [⟨yK,a0⟩,⟨yI,a4⟩]).bind fun r1=>(bif (decide (r1.1<(0:Int))) then some ⟨o_Z94,((-1:Int),())⟩ else((qgL R n_Z90 o_Z90 [⟨yL,a2⟩,⟨yI,r1.1⟩]).bind fun r2=>(bif (decide (r2.1<(0:Int))) then some ⟨o_Z94,((-1:Int),())⟩ else((qgL R n_Z93 o_Z93 [⟨yN,a3⟩,⟨yI,r2.1⟩]).bind fun r3=>(bif (decide (r3.1<(0:Int))) then some ⟨o_Z94,((-1:Int),())⟩ else some ⟨o_Z94,(r3.1,())⟩)))))):=by kernel_rfl
def Z96.l0(R:Run)(N n:Nat)(a:List Int)(b:Int)(e:List Int):Option Dv:=R.w (some ⟨(.c (.d yL a)::(V.dead::(V.dead::(.c (.arr 7)::(.c (.d yI b)::(zd 17 [])))))),(zo 7 (some (.arr yI e true false false)::(zo 15 [])))⟩) fun st=>lC R pol_Z96 3 N [1,1,0,1,0,0] F_Z96 n st (kB R pol_Z96 0 (kS R pol_Z96 6 N [1,1,1] F_Z96 (qqM E sg_Z96 F_Z96)))
theorem Z96.l0_succ(R:Run)(hw:R.ok)(N n:Nat)(a:List Int)(b:Int)(c:List Int):Z96.l0 R N (n+1) a b c=(bif (decide (b<(List.length a:Int))) then((idx? a b).bind fun y4=>((chk (decide (0≤b)&&decide (b<(List.length c:Int)))).bind fun _=>(Z96.l0 R N n a (w64 (b+1)) (List.set c (Int.toNat b) (y4,()).1)))) else some ⟨o_Z96,(c,())⟩):=(hw _ _).trans (by kernel_rfl)
theorem Z96.ev(R:Run)(N:Nat)(a0:List Int):qqq E R sg_Z96 pol_Z96 F_Z96 N [⟨yL,a0⟩]=((chk (decide (0≤(List.length a0:Int))&&decide ((List.length a0:Int)*8≤70368744177664))).bind fun _=>(Z96.l0 R N N a0 (0:Int) (List.replicate (Int.toNat (List.length a0:Int)) (0:Int)))):=by kernel_rfl
def Z97.l0(R:Run)(N n:Nat)(a:vK)(b:Int)(e:vK):Option Dv:=R.w (some ⟨(.c (.d yK a)::(V.dead::(V.dead::(.c (.arr 7)::(.c (.d yI b)::(zd 18 [])))))),(zo 7 (some (.arr yL e true false false)::(zo 17 [])))⟩) fun st=>lC R pol_Z97 3 N [1,1,0,1,0,0] F_Z97 n st (kB R pol_Z97 0 (kS R pol_Z97 6 N [1,1,1] F_Z97 (qqM E sg_Z97 F_Z97)))
theorem Z97.l0_succ(R:Run)(hw:R.ok)(N n:Nat)(a:vK)(b:Int)(c:vK):Z97.l0 R N (n+1) a b c=(bif (decide (b<(List.length a:Int))) then((idx? a b).bind fun y4=>((qgL R n_Z96 o_Z96 [⟨yL,(y4,()).1⟩]).bind fun r5=>((chk (decide (0≤b)&&decide (b<(List.length c:Int)))).bind fun _=>(Z97.l0 R N n a (w64 (b+1)) (List.set c (Int.toNat b) r5.1))))) else some ⟨o_Z97,(c,())⟩):=(hw _ _).trans (by kernel_rfl)
theorem Z97.ev(R:Run)(N:Nat)(a0:vK):qqq E R sg_Z97 pol_Z97 F_Z97 N [⟨yK,a0⟩]=((chk (decide (0≤(List.length a0:Int))&&decide ((List.length a0:Int)*24≤70368744177664))).bind fun _=>(Z97.l0 R N N a0 (0:Int) (List.replicate (Int.toNat (List.length a0:Int)) ([]:List Int)))):=by kernel_rfl
theorem Z95.ev(R:Run)(N:Nat)(a0:vK):qqq E R sg_Z95 pol_Z95 F_Z95 N [⟨yK,a0⟩]=((qgL R n_Z97 o_Z97 [⟨yK,a0⟩]).bind fun r1=>some ⟨o_Z95,(r1.1,())⟩):=by kernel_rfl
theorem Z98.ev(R:Run)(N:Nat)(a0 a1 a2:Int)(a3:List Int):qqq E R sg_Z98 pol_Z98 F_Z98 N [⟨yI,a0⟩,⟨yI,a1⟩,⟨yI,a2⟩,⟨yL,a3⟩]=((qgL R n_Z96 o_Z96 [⟨yL,a3⟩]).bind fun r1=>some ⟨o_Z98,(a0,a1,a2,r1.1,())⟩):=by kernel_rfl
def Z99.l0(R:Run)(N n:Nat)(a:vN)(b:Int)(e:vN):Option Dv:=R.w (some ⟨(.c (.d yN a)::(V.dead::(V.dead::(.c (.arr 7)::(.c (.d yI b)::(zd 18 [])))))),(zo 7 (some (.arr (.st yM) e true false false)::(zo 17 [])))⟩) fun st=>lC R pol_Z99 3 N [1,1,0,1,0,0] F_Z99 n st (kB R pol_Z99 0 (kS R pol_Z99 6 N [1,1,1] F_Z99 (qqM E sg_Z99 F_Z99)))
theorem Z99.l0_succ(R:Run)(hw:R.ok)(N n:Nat)(a:vN)(b:Int)(c:vN):Z99.l0 R N (n+1) a b c=(bif (decide (b<(List.length a:Int))) then((idx? a b).bind fun y4=>((qgL R n_Z98 o_Z98 [⟨yI,y4.1⟩,⟨yI,y4.2.1⟩,⟨yI,y4.2.2.1⟩,⟨yL,y4.2.2.2.1⟩]).bind fun r5=>((chk (decide (0≤b)&&decide (b<(List.length c:Int)))).bind fun _=>(Z99.l0 R N n a (w64 (b+1)) (List.set c (Int.toNat b) (r5.1,r5.2.1,r5.2.2.1,r5.2.2.2.1,())))))) else some ⟨o_Z99,(c,())⟩):=(hw _ _).trans (by kernel_rfl)
theorem Z99.ev(R:Run)(N:Nat)(a0:vN):qqq E R sg_Z99 pol_Z99 F_Z99 N [⟨yN,a0⟩]=((chk (decide (0≤(List.length a0:Int))&&decide ((List.length a0:Int)*48≤70368744177664))).bind fun _=>(Z99.l0 R N N a0 (0:Int) (List.replicate (Int.toNat (List.length a0:Int)) ((0:Int),(0:Int),(0:Int),([]:List Int),())))):=by kernel_rfl
theorem Z100.ev(R:Run)(N:Nat)(a0:vK)(a1:Int)(a2:List Int)(a3:vN):qqq E R sg_Z100 pol_Z100 F_Z100 N [⟨yK,a0⟩,⟨yI,a1⟩,⟨yL,a2⟩,⟨yN,a3⟩]=((qgL R n_Z95 o_Z95 [⟨yK,a0⟩]).bind fun r1=>((qgL R n_Z96 o_Z96 [⟨yL,a2⟩]).bind fun r2=>((qgL R n_Z99 o_Z99 [⟨yN,a3⟩]).bind fun r3=>some ⟨o_Z100,(r1.1,a1,r2.1,r3.1,())⟩))):=by kernel_rfl
theorem Z127.ev(R:Run)(N:Nat)(a0 a1 a2:Int):qqq E R sg_Z127 pol_Z127 F_Z127 N [⟨yI,a0⟩,⟨yI,a1⟩,⟨yI,a2⟩]=(bif (decide (a0≥a1)) then some ⟨o_Z127,((decide (a0≤a2)),())⟩ else some ⟨o_Z127,(false,())⟩):=by kernel_rfl
def Z129.j1(R:Run)(N a:Nat)(b:List Int)(e f g:Int)(h:Bool):Option Dv:=R.w (some ⟨(.c (.d yL b)::(.c (.d yI e)::(.c (.d yI f)::(zd 4 (.c (.d yI g)::(zd 29 (.c (.d .bool h)::[]))))))),(zo 41 [])⟩) fun st=>eC R pol_Z129 N [1,0,1,0,0,1,0,0,1] F_Z129 st (kB R pol_Z129 1 (kS R pol_Z129 3 N [1,0,1,0,0,1,1] F_Z129 (kL R pol_Z129 2 N [1,0,1,0,0] F_Z129 a (kB R pol_Z129 0 (kS R pol_Z129 6 N [1,1] F_Z129 (qqM E sg_Z129 F_Z129))))))
def Z129.l0(R:Run)(N n:Nat)(a:List Int)(b e f:Int):Option Dv:=R.w (some ⟨(.c (.d yL a)::(.c (.d yI b)::(.c (.d yI e)::(zd 4 (.c (.d yI f)::(zd 30 [])))))),(zo 41 [])⟩) fun st=>lC R pol_Z129 2 N [1,0,1,0,0] F_Z129 n st (kB R pol_Z129 0 (kS R pol_Z129 6 N [1,1] F_Z129 (qqM E sg_Z129 F_Z129)))
theorem Z129.j1_eq(R:Run)(hw:R.ok)(N a:Nat)(b:List Int)(c d e:Int)(f:Bool):Z129.j1 R N a b c d e f=(bif f then some ⟨o_Z129,(false,())⟩ else(Z129.l0 R N a b c d (w64 (e+1)))):=(hw _ _).trans (by kernel_rfl)
theorem Z129.l0_succ(R:Run)(hw:R.ok)(N n:Nat)(a:List Int)(b c d:Int):Z129.l0 R N (n+1) a b c d=(bif (decide (d<(List.length a:Int))) then((idx? a d).bind fun y5=>((qgL R n_Z127 o_Z127 [⟨yI,(y5,()).1⟩,⟨yI,b⟩,⟨yI,c⟩]).bind fun r6=>(bif (!r6.1) then(Z129.j1 R N n a b c d true) else(bif (decide (d>(0:Int))) then((idx? a (w64 (d-1))).bind fun y16=>((idx? a d).bind fun y17=>(Z129.j1 R N n a b c d (decide ((y16,()).1≥(y17,()).1))))) else(Z129.j1 R N n a b c d false))))) else some ⟨o_Z129,(true,())⟩):=(hw _ _).trans (by kernel_rfl)
theorem Z129.ev(R:Run)(N:Nat)(a0:List Int)(a1 a2:Int):qqq E R sg_Z129 pol_Z129 F_Z129 N [⟨yL,a0⟩,⟨yI,a1⟩,⟨yI,a2⟩]=(Z129.l0 R N N a0 a1 a2 (0:Int)):=by kernel_rfl
theorem Z150.ev(R:Run)(N:Nat)(a0:List Int):qqq E R sg_Z150 pol_Z150 F_Z150 N [⟨yL,a0⟩]=((qgL R n_Z127 o_Z127 [⟨yI,(List.length a0:Int)⟩,⟨yI,(1:Int)⟩,⟨yI,(4:Int)⟩]).bind fun r1=>(bif r1.1 then((qgL R n_Z129 o_Z129 [⟨yL,a0⟩,⟨yI,(0:Int)⟩,⟨yI,(9:Int)⟩]).bind fun r2=>some ⟨o_Z150,(r2.1,())⟩) else some ⟨o_Z150,(false,())⟩)):=by kernel_rfl
def Z144.l0(R:Run)(N n:Nat)(a b:List Int)(e:Int):Option Dv:=R.w (some ⟨(.c (.d yL a)::(.c (.d yL b)::(zd 3 (.c (.d yI e)::(zd 34 []))))),(zo 42 [])⟩) fun st=>lC R pol_Z144 4 N [1,1,0,1,0,0] F_Z144 n st (kB R pol_Z144 0 (kS R pol_Z144 8 N [1,1,1] F_Z144 (qqM E sg_Z144 F_Z144)))
theorem Z144.l0_succ(R:Run)(hw:R.ok)(N n:Nat)(a b:List Int)(c:Int):Z144.l0 R N (n+1) a b c=(bif (decide (c<(List.length a:Int))) then((idx? a c).bind fun y4=>((idx? b c).bind fun y5=>(bif ((y4,()).1 != (y5,()).1) then((idx? a c).bind fun y6=>((idx? b c).bind fun y7=>some ⟨o_Z144,((decide ((y6,()).1<(y7,()).1)),())⟩)) else(Z144.l0 R N n a b (w64 (c+1)))))) else some ⟨o_Z144,(false,())⟩):=(hw _ _).trans (by kernel_rfl)
theorem Z144.ev(R:Run)(N:Nat)(a0 a1:List Int):qqq E R sg_Z144 pol_Z144 F_Z144 N [⟨yL,a0⟩,⟨yL,a1⟩]=(bif ((List.length a0:Int) != (List.length a1:Int)) then some ⟨o_Z144,((decide ((List.length a0:Int)<(List.length a1:Int))),())⟩ else(Z144.l0 R N N a0 a1 (0:Int))):=by kernel_rfl
theorem Z128.ev(R:Run)(N:Nat)(a0:List Int):qqq E R sg_Z128 pol_Z128 F_Z128 N [⟨yL,a0⟩]=((chk (decide ((List.length ([]:List Int)+List.length a0)*8≤70368744177664))).bind fun _=>some ⟨o_Z128,((([]:List Int)++a0),())⟩):=by kernel_rfl
theorem Z145.ev(R:Run)(N:Nat)(a0:List Int)(a1:Int):qqq E R sg_Z145 pol_Z145 F_Z145 N [⟨yL,a0⟩,⟨yI,a1⟩]=((chk (decide (0≤a1)&&decide (a1≤(List.length a0:Int)))).bind fun _=>((qgL R n_Z128 o_Z128 [⟨yL,(List.take (Int.toNat a1) a0)⟩]).bind fun r1=>((chk (decide (0≤(w64 (a1+1)))&&decide ((w64 (a1+1))≤(List.length a0:Int)))).bind fun _=>((chk (decide ((List.length r1.1+List.length (List.drop (Int.toNat (w64 (a1+1))) a0))*8≤70368744177664))).bind fun _=>some ⟨o_Z145,((r1.1++(List.drop (Int.toNat (w64 (a1+1))) a0)),())⟩)))):=by kernel_rfl
def Z130.l0(R:Run)(N n:Nat)(a b:List Int)(e:Int):Option Dv:=R.w (some ⟨(.c (.d yL a)::(.c (.d yL b)::(zd 3 (.c (.d yI e)::(zd 20 []))))),(zo 28 [])⟩) fun st=>lC R pol_Z130 4 N [1,1,0,1,0,0] F_Z130 n st (kB R pol_Z130 0 (kS R pol_Z130 8 N [1,1,1] F_Z130 (qqM E sg_Z130 F_Z130)))
theorem Z130.l0_succ(R:Run)(hw:R.ok)(N n:Nat)(a b:List Int)(c:Int):Z130.l0 R N (n+1) a b c=(bif (decide (c<(List.length a:Int))) then((idx? a c).bind fun y4=>((idx? b c).bind fun y5=>(bif ((y4,()).1 != (y5,()).1) then some ⟨o_Z130,(false,())⟩ else(Z130.l0 R N n a b (w64 (c+1)))))) else some ⟨o_Z130,(true,())⟩):=(hw _ _).trans (by kernel_rfl)
theorem Z130.ev(R:Run)(N:Nat)(a0 a1:List Int):qqq E R sg_Z130 pol_Z130 F_Z130 N [⟨yL,a0⟩,⟨yL,a1⟩]=(bif ((List.length a0:Int) != (List.length a1:Int)) then some ⟨o_Z130,(false,())⟩ else(Z130.l0 R N N a0 a1 (0:Int))):=by kernel_rfl
def Z147.l0(R:Run)(N n:Nat)(a:(vK×Unit))(b:List Int)(e:Int):Option Dv:=R.w (some ⟨(.c (.ip yC a 0)::(.c (.d yL b)::(zd 3 (.c (.d yI e)::(zd 19 []))))),(zo 27 [])⟩) fun st=>lC R pol_Z147 2 N [1,0,1,0,0] F_Z147 n st (kB R pol_Z147 0 (kS R pol_Z147 6 N [1,1] F_Z147 (qqM E sg_Z147 F_Z147)))
theorem Z147.l0_succ(R:Run)(hw:R.ok)(N n:Nat)(a:(vK×Unit))(b:List Int)(c:Int):Z147.l0 R N (n+1) a b c=(bif (decide (c<(List.length a.1:Int))) then((idx? a.1 c).bind fun y4=>((qgL R n_Z130 o_Z130 [⟨yL,(y4,()).1⟩,⟨yL,b⟩]).bind fun r5=>(bif r5.1 then some ⟨o_Z147,(c,())⟩ else(Z147.l0 R N n a b (w64 (c+1)))))) else some ⟨o_Z147,((-1:Int),())⟩):=(hw _ _).trans (by kernel_rfl)
theorem Z147.ev(R:Run)(N:Nat)(a0:(vK×Unit))(a1:List Int):qqq E R sg_Z147 pol_Z147 F_Z147 N [⟨(.ptr yC),a0⟩,⟨yL,a1⟩]=(Z147.l0 R N N a0 a1 (0:Int)):=by kernel_rfl
def Z149.j3(R:Run)(N a b:Nat)(e:(vK×Unit))(f:Int)(g:List Int)(h:Int)(i:Bool):Option Dv:=R.w (some ⟨(.c (.ip yC e 0)::(V.dead::(V.dead::(.c (.d yI f)::(.c (.d yL g)::(.c (.d yI h)::(zd 50 (.c (.d .bool i)::(zd 8 []))))))))),(zo 66 [])⟩) fun st=>eC R pol_Z149 N [1,1,0,1,0,0,1,0,0,1,1,1,0,0,0,1] F_Z149 st (kS R pol_Z149 12 N [1,1,0,1,0,0,1,0,0,1,1,1,0,0,1] F_Z149 (kL R pol_Z149 10 N [1,1,0,1,0,0,1,0,0,1,1,1,0,0] F_Z149 b (kB R pol_Z149 2 (kB R pol_Z149 1 (q0_0 R N (q0_6 R N a (kB R pol_Z149 0 (q0_1 R N (qqM E sg_Z149 F_Z149)))))))))
def Z149.l2(R:Run)(N a n:Nat)(b:(vK×Unit))(e:Int)(f:List Int)(g:Int):Option Dv:=R.w (some ⟨(.c (.ip yC b 0)::(V.dead::(V.dead::(.c (.d yI e)::(.c (.d yL f)::(.c (.d yI g)::(zd 59 []))))))),(zo 66 [])⟩) fun st=>lC R pol_Z149 10 N [1,1,0,1,0,0,1,0,0,1,1,1,0,0] F_Z149 n st (kB R pol_Z149 2 (kB R pol_Z149 1 (q0_0 R N (q0_6 R N a (kB R pol_Z149 0 (q0_1 R N (qqM E sg_Z149 F_Z149)))))))
def Z149.j1(R:Run)(N a:Nat)(b:(vK×Unit))(e:Int)(f:List Int)(g:Bool):Option Dv:=R.w (some ⟨(.c (.ip yC b 0)::(V.dead::(V.dead::(.c (.d yI e)::(.c (.d yL f)::(zd 42 (.c (.d .bool g)::(zd 17 [])))))))),(zo 66 [])⟩) fun st=>eC R pol_Z149 N [1,1,0,1,0,0,1,0,0,1,0,1] F_Z149 st (kS R pol_Z149 9 N [1,1,0,1,0,0,1,0,0,1,1] F_Z149 (kB R pol_Z149 1 (q0_0 R N (q0_6 R N a (kB R pol_Z149 0 (q0_1 R N (qqM E sg_Z149 F_Z149)))))))
def Z149.l0(R:Run)(N n:Nat)(a:(vK×Unit))(b:Int):Option Dv:=R.w (some ⟨(.c (.ip yC a 0)::(V.dead::(V.dead::(.c (.d yI b)::(zd 61 []))))),(zo 66 [])⟩) fun st=>lC R pol_Z149 4 N [1,1,0,1,0,0] F_Z149 n st (kB R pol_Z149 0 (q0_1 R N (qqM E sg_Z149 F_Z149)))
theorem Z149.j3_eq(R:Run)(hw:R.ok)(N a b:Nat)(c:(vK×Unit))(d:Int)(e:List Int)(f:Int)(g:Bool):Z149.j3 R N a b c d e f g=(bif g then((qgL R n_Z145 o_Z145 [⟨yL,e⟩,⟨yI,f⟩]).bind fun r18=>((qgL R n_Z147 o_Z147 [⟨(.ptr yC),c⟩,⟨yL,r18.1⟩]).bind fun r19=>(bif (decide (r19.1<(0:Int))) then some ⟨o_Z149,(false,())⟩ else(Z149.l2 R N a b c d e (w64 (f+1)))))) else(Z149.l0 R N a c (w64 (d+1)))):=(hw _ _).trans (by kernel_rfl)
theorem Z149.l2_succ(R:Run)(hw:R.ok)(N a n:Nat)(b:(vK×Unit))(c:Int)(d:List Int)(e:Int):Z149.l2 R N a (n+1) b c d e=(bif (decide (e<(List.length d:Int))) then(Z149.j3 R N a n b c d e (decide ((List.length d:Int)>(1:Int)))) else(Z149.j3 R N a n b c d e false)):=(hw _ _).trans (by kernel_rfl)
theorem Z149.j1_eq(R:Run)(hw:R.ok)(N a:Nat)(b:(vK×Unit))(c:Int)(d:List Int)(e:Bool):Z149.j1 R N a b c d e=(bif e then some ⟨o_Z149,(false,())⟩ else(Z149.l2 R N a N b c d (0:Int))):=(hw _ _).trans (by kernel_rfl)
theorem Z149.l0_succ(R:Run)(hw:R.ok)(N n:Nat)(a:(vK×Unit))(b:Int):Z149.l0 R N (n+1) a b=(bif (decide (b<(List.length a.1:Int))) then((idx? a.1 b).bind fun y3=>((qgL R n_Z150 o_Z150 [⟨yL,(y3,()).1⟩]).bind fun r4=>(bif (!r4.1) then(Z149.j1 R N n a b ((y3,()).1) true) else(bif (decide (b>(0:Int))) then((idx? a.1 (w64 (b-1))).bind fun y31=>((qgL R n_Z144 o_Z144 [⟨yL,(y31,()).1⟩,⟨yL,(y3,()).1⟩]).bind fun r32=>(Z149.j1 R N n a b ((y3,()).1) (!r32.1)))) else(Z149.j1 R N n a b ((y3,()).1) false))))) else some ⟨o_Z149,(true,())⟩):=(hw _ _).trans (by kernel_rfl)
theorem Z149.ev(R:Run)(N:Nat)(a0:(vK×Unit)):qqq E R sg_Z149 pol_Z149 F_Z149 N [⟨(.ptr yC),a0⟩]=(bif (decide ((List.length a0.1:Int)>(48:Int))) then some ⟨o_Z149,(false,())⟩ else(Z149.l0 R N N a0 (0:Int))):=by kernel_rfl
def Z132.l0(R:Run)(N n:Nat)(a b:Int):Option Dv:=R.w (some ⟨(.c (.d yI a)::(V.dead::(V.dead::(.c (.d yI b)::(zd 14 []))))),(zo 19 [])⟩) fun st=>lC R pol_Z132 4 N [1,1,0,1,0,0] F_Z132 n st (kB R pol_Z132 0 (kS R pol_Z132 8 N [1,1,1] F_Z132 (qqM E sg_Z132 F_Z132)))
theorem Z132.l0_succ(R:Run)(hw:R.ok)(N n:Nat)(a b:Int):Z132.l0 R N (n+1) a b=(bif (decide ((w64 (b*b))≤a)) then((chk (b != 0)).bind fun _=>(bif ((Int.tmod a b)==(0:Int)) then some ⟨o_Z132,(false,())⟩ else(Z132.l0 R N n a (w64 (b+1))))) else some ⟨o_Z132,(true,())⟩):=(hw _ _).trans (by kernel_rfl)
theorem Z132.ev(R:Run)(N:Nat)(a0:Int):qqq E R sg_Z132 pol_Z132 F_Z132 N [⟨yI,a0⟩]=((qgL R n_Z127 o_Z127 [⟨yI,a0⟩,⟨yI,(2:Int)⟩,⟨yI,(251:Int)⟩]).bind fun r1=>(bif (!r1.1) then some ⟨o_Z132,(false,())⟩ else(Z132.l0 R N N a0 (2:Int)))):=by kernel_rfl
theorem Z125.ev(R:Run)(N:Nat)(a0:Int):qqq E R sg_Z125 pol_Z125 F_Z125 N [⟨yI,a0⟩]=((qgL R n_Z132 o_Z132 [⟨yI,a0⟩]).bind fun r1=>some ⟨o_Z125,(r1.1,())⟩):=by kernel_rfl
def Z156.l0(R:Run)(N n:Nat)(a:(vK×Unit))(b e f g:Int):Option Dv:=R.w (some ⟨(.c (.ip yC a 0)::(.c (.d yI b)::(.c (.d yI e)::(zd 4 (.c (.d yI f)::(.c (.d yI g)::(zd 27 []))))))),(zo 39 [])⟩) fun st=>lC R pol_Z156 3 N [1,1,0,1,0,0] F_Z156 n st (kB R pol_Z156 0 (kS R pol_Z156 7 N [1,1,1] F_Z156 (qqM E sg_Z156 F_Z156)))
theorem Z156.l0_succ(R:Run)(hw:R.ok)(N n:Nat)(a:(vK×Unit))(b c d e:Int):Z156.l0 R N (n+1) a b c d e=(bif (decide (e<b)) then((idx? a.1 e).bind fun y6=>(bif (decide ((List.length (y6,()).1:Int)>(1:Int))) then((idx? a.1 e).bind fun y7=>(Z156.l0 R N n a b c (w64 (d+(List.length (y7,()).1:Int))) (w64 (e+1)))) else(Z156.l0 R N n a b c d (w64 (e+1))))) else some ⟨o_Z156,((w64 (d+c)),())⟩):=(hw _ _).trans (by kernel_rfl)
theorem Z156.ev(R:Run)(N:Nat)(a0:(vK×Unit))(a1 a2:Int):qqq E R sg_Z156 pol_Z156 F_Z156 N [⟨(.ptr yC),a0⟩,⟨yI,a1⟩,⟨yI,a2⟩]=(Z156.l0 R N N a0 a1 a2 (0:Int) (0:Int)):=by kernel_rfl
def Z146.j1(R:Run)(N a:Nat)(b:(vK×Unit))(e:List Int)(f:Int)(g:Bool)(h:List Int):Option Dv:=R.w (some ⟨(.c (.ip yC b 0)::(zd 4 (.c (.d yL e)::(.c (.arr 15)::(.c (.d yI f)::(zd 16 (.c (.d .bool g)::(zd 11 [])))))))),(zo 15 (some (.arr yI h true false false)::(zo 22 [])))⟩) fun st=>eC R pol_Z146 N [1,1,1,0,1,0,0,0,1] F_Z146 st (kS R pol_Z146 6 N [1,1,1,0,1,0,0,1] F_Z146 (kL R pol_Z146 4 N [1,1,1,0,1,0,0] F_Z146 a (kB R pol_Z146 0 (kS R pol_Z146 7 N [1,1,1,1] F_Z146 (qqM E sg_Z146 F_Z146)))))
def Z146.l0(R:Run)(N n:Nat)(a:(vK×Unit))(b:List Int)(e:Int)(f:List Int):Option Dv:=R.w (some ⟨(.c (.ip yC a 0)::(zd 4 (.c (.d yL b)::(.c (.arr 15)::(.c (.d yI e)::(zd 28 [])))))),(zo 15 (some (.arr yI f true false false)::(zo 22 [])))⟩) fun st=>lC R pol_Z146 4 N [1,1,1,0,1,0,0] F_Z146 n st (kB R pol_Z146 0 (kS R pol_Z146 7 N [1,1,1,1] F_Z146 (qqM E sg_Z146 F_Z146)))
theorem Z146.j1_eq(R:Run)(hw:R.ok)(N a:Nat)(b:(vK×Unit))(c:List Int)(d:Int)(e:Bool)(f:List Int):Z146.j1 R N a b c d e f=(bif e then((qgL R n_Z145 o_Z145 [⟨yL,c⟩,⟨yI,d⟩]).bind fun r11=>((qgL R n_Z147 o_Z147 [⟨(.ptr yC),b⟩,⟨yL,r11.1⟩]).bind fun r12=>((chk (decide ((List.length f+List.length [r12.1])*8≤70368744177664))).bind fun _=>(Z146.l0 R N a b c (w64 (d+1)) (f++[r12.1]))))) else some ⟨o_Z146,(f,())⟩):=(hw _ _).trans (by kernel_rfl)
theorem Z146.l0_succ(R:Run)(hw:R.ok)(N n:Nat)(a:(vK×Unit))(b:List Int)(c:Int)(d:List Int):Z146.l0 R N (n+1) a b c d=(bif (decide (c<(List.length b:Int))) then(Z146.j1 R N n a b c (decide ((List.length b:Int)>(1:Int))) d) else(Z146.j1 R N n a b c false d)):=(hw _ _).trans (by kernel_rfl)
theorem Z146.ev(R:Run)(N:Nat)(a0:(vK×Unit))(a1:Int):qqq E R sg_Z146 pol_Z146 F_Z146 N [⟨(.ptr yC),a0⟩,⟨yI,a1⟩]=((idx? a0.1 a1).bind fun y1=>(Z146.l0 R N N a0 ((y1,()).1) (0:Int) ([]:List Int))):=by kernel_rfl
def Z133.l0(R:Run)(N n:Nat)(a:List Int)(b e f:Int):Option Dv:=R.w (some ⟨(.c (.d yL a)::(.c (.d yI b)::(.c (.d yI e)::(zd 4 (.c (.d yI f)::(zd 18 [])))))),(zo 29 [])⟩) fun st=>lC R pol_Z133 2 N [1,0,1,0,0] F_Z133 n st (kB R pol_Z133 0 (kS R pol_Z133 6 N [1,1] F_Z133 (qqM E sg_Z133 F_Z133)))
theorem Z133.l0_succ(R:Run)(hw:R.ok)(N n:Nat)(a:List Int)(b c d:Int):Z133.l0 R N (n+1) a b c d=(bif (decide (d<(List.length a:Int))) then((idx? a d).bind fun y5=>((qgL R n_Z127 o_Z127 [⟨yI,(y5,()).1⟩,⟨yI,(0:Int)⟩,⟨yI,(w64 (c-1))⟩]).bind fun r6=>(bif (!r6.1) then some ⟨o_Z133,(false,())⟩ else(Z133.l0 R N n a b c (w64 (d+1)))))) else some ⟨o_Z133,(((List.length a:Int)==b),())⟩):=(hw _ _).trans (by kernel_rfl)
theorem Z133.ev(R:Run)(N:Nat)(a0:List Int)(a1 a2:Int):qqq E R sg_Z133 pol_Z133 F_Z133 N [⟨yL,a0⟩,⟨yI,a1⟩,⟨yI,a2⟩]=(Z133.l0 R N N a0 a1 a2 (0:Int)):=by kernel_rfl
theorem Z137.ev(R:Run)(N:Nat)(a0:vM):qqq E R sg_Z137 pol_Z137 F_Z137 N [⟨(.ptr yM),a0⟩]=((qgL R n_Z125 o_Z125 [⟨yI,a0.1⟩]).bind fun r1=>(bif r1.1 then((qgL R n_Z127 o_Z127 [⟨yI,a0.2.1⟩,⟨yI,(0:Int)⟩,⟨yI,(32:Int)⟩]).bind fun r2=>(bif r2.1 then((qgL R n_Z127 o_Z127 [⟨yI,a0.2.2.1⟩,⟨yI,(0:Int)⟩,⟨yI,(32:Int)⟩]).bind fun r3=>(bif r3.1 then((qgL R n_Z133 o_Z133 [⟨yL,a0.2.2.2.1⟩,⟨yI,(w64 (a0.2.1*a0.2.2.1))⟩,⟨yI,a0.1⟩]).bind fun r4=>some ⟨o_Z137,(r4.1,())⟩) else some ⟨o_Z137,(false,())⟩)) else some ⟨o_Z137,(false,())⟩)) else some ⟨o_Z137,(false,())⟩)):=by kernel_rfl
theorem Z154.ev(R:Run)(N:Nat)(a0:vS)(a1 a2:Int)(a3:vM):qqq E R sg_Z154 pol_Z154 F_Z154 N [⟨(.ptr yS),a0⟩,⟨yI,a1⟩,⟨yI,a2⟩,⟨(.ptr yM),a3⟩]=((qgL R n_Z146 o_Z146 [⟨(.ptr yC),(a0.1,())⟩,⟨yI,a1⟩]).bind fun r1=>((idx? r1.1 a2).bind fun y2=>((qgL R n_Z137 o_Z137 [⟨(.ptr yM),a3⟩]).bind fun r3=>(bif r3.1 then(bif (a3.1==a0.2.1) then((idx? a0.2.2.1 a1).bind fun y4=>(bif (a3.2.1==(y4,()).1) then((idx? a0.2.2.1 (y2,()).1).bind fun y5=>some ⟨o_Z154,((a3.2.2.1==(y5,()).1),())⟩) else some ⟨o_Z154,(false,())⟩)) else some ⟨o_Z154,(false,())⟩) else some ⟨o_Z154,(false,())⟩)))):=by kernel_rfl
def Z148.l0(R:Run)(N n:Nat)(a:(vK×Unit))(b e:Int)(f:List Int):Option Dv:=R.w (some ⟨(.c (.ip yC a 0)::(.c (.d yI b)::(zd 3 (.c (.arr 7)::(.c (.d yI e)::(zd 26 [])))))),(zo 7 (some (.arr yI f true false false)::(zo 27 [])))⟩) fun st=>lC R pol_Z148 3 N [1,1,0,1,0,0] F_Z148 n st (kB R pol_Z148 0 (kS R pol_Z148 7 N [1,1,1] F_Z148 (qqM E sg_Z148 F_Z148)))
theorem Z148.l0_succ(R:Run)(hw:R.ok)(N n:Nat)(a:(vK×Unit))(b c:Int)(d:List Int):Z148.l0 R N (n+1) a b c d=(bif (decide (c<(List.length a.1:Int))) then((idx? a.1 c).bind fun y5=>(bif ((List.length (y5,()).1:Int)==(w64 (b+1))) then((chk (decide ((List.length d+List.length [c])*8≤70368744177664))).bind fun _=>(Z148.l0 R N n a b (w64 (c+1)) (d++[c]))) else(Z148.l0 R N n a b (w64 (c+1)) d))) else some ⟨o_Z148,(d,())⟩):=(hw _ _).trans (by kernel_rfl)
theorem Z148.ev(R:Run)(N:Nat)(a0:(vK×Unit))(a1:Int):qqq E R sg_Z148 pol_Z148 F_Z148 N [⟨(.ptr yC),a0⟩,⟨yI,a1⟩]=(Z148.l0 R N N a0 a1 (0:Int) ([]:List Int)):=by kernel_rfl
def Z159.l0(R:Run)(N n:Nat)(a b:List Int)(e f:Int):Option Dv:=R.w (some ⟨(V.dead::(.c (.d yL a)::(zd 5 (.c (.d yL b)::(.c (.d yI e)::(.c (.d yI f)::(zd 19 []))))))),(zo 32 [])⟩) fun st=>lC R pol_Z159 4 N [1,1,1,0,1,0,0] F_Z159 n st (kB R pol_Z159 0 (kS R pol_Z159 7 N [1,1,1,1] F_Z159 (qqM E sg_Z159 F_Z159)))
theorem Z159.l0_succ(R:Run)(hw:R.ok)(N n:Nat)(a b:List Int)(c d:Int):Z159.l0 R N (n+1) a b c d=(bif (decide (d<(List.length b:Int))) then((idx? b d).bind fun y6=>((idx? a (y6,()).1).bind fun y7=>(Z159.l0 R N n a b (w64 (c+(y7,()).1)) (w64 (d+1))))) else some ⟨o_Z159,(c,())⟩):=(hw _ _).trans (by kernel_rfl)
theorem Z159.ev(R:Run)(N:Nat)(a0:(vK×Unit))(a1:List Int)(a2:Int):qqq E R sg_Z159 pol_Z159 F_Z159 N [⟨(.ptr yC),a0⟩,⟨yL,a1⟩,⟨yI,a2⟩]=((qgL R n_Z148 o_Z148 [⟨(.ptr yC),a0⟩,⟨yI,a2⟩]).bind fun r1=>(Z159.l0 R N N a1 r1.1 (0:Int) (0:Int))):=by kernel_rfl
def Z158.l0(R:Run)(N n:Nat)(a:(vK×Unit))(b:List Int)(e:Int):Option Dv:=R.w (some ⟨(.c (.ip yC a 0)::(.c (.d yL b)::(zd 3 (.c (.d yI e)::(zd 17 []))))),(zo 25 [])⟩) fun st=>lC R pol_Z158 4 N [1,1,0,1,0,0] F_Z158 n st (kB R pol_Z158 0 (kS R pol_Z158 8 N [1,1,1] F_Z158 (qqM E sg_Z158 F_Z158)))
theorem Z158.l0_succ(R:Run)(hw:R.ok)(N n:Nat)(a:(vK×Unit))(b:List Int)(c:Int):Z158.l0 R N (n+1) a b c=(bif (decide (c≤(3:Int))) then((qgL R n_Z159 o_Z159 [⟨(.ptr yC),a⟩,⟨yL,b⟩,⟨yI,c⟩]).bind fun r5=>(bif (decide (r5.1>(32:Int))) then some ⟨o_Z158,(false,())⟩ else(Z158.l0 R N n a b (w64 (c+1))))) else some ⟨o_Z158,(true,())⟩):=(hw _ _).trans (by kernel_rfl)
theorem Z158.ev(R:Run)(N:Nat)(a0:(vK×Unit))(a1:List Int):qqq E R sg_Z158 pol_Z158 F_Z158 N [⟨(.ptr yC),a0⟩,⟨yL,a1⟩]=((qgL R n_Z133 o_Z133 [⟨yL,a1⟩,⟨yI,(List.length a0.1:Int)⟩,⟨yI,(4:Int)⟩]).bind fun r1=>(bif (!r1.1) then some ⟨o_Z158,(false,())⟩ else(Z158.l0 R N N a0 a1 (0:Int)))):=by kernel_rfl
theorem Z151.ev(R:Run)(N:Nat)(a0:(vK×Unit)):qqq E R sg_Z151 pol_Z151 F_Z151 N [⟨(.ptr yC),a0⟩]=((qgL R n_Z156 o_Z156 [⟨(.ptr yC),a0⟩,⟨yI,(List.length a0.1:Int)⟩,⟨yI,(0:Int)⟩]).bind fun r1=>some ⟨o_Z151,(r1.1,())⟩):=by kernel_rfl
def Z155.j3(R:Run)(N a b:Nat)(e:vS)(f g:Int)(h:Bool):Option Dv:=R.w (some ⟨(.c (.ip yS e 0)::(V.dead::(V.dead::(.c (.d yI f)::(.c (.d yI g)::(zd 68 (.c (.d .bool h)::(zd 18 [])))))))),(zo 93 [])⟩) fun st=>eC R pol_Z155 N [1,1,0,1,0,0,1,0,0,1,0,0,0,1] F_Z155 st (kS R pol_Z155 9 N [1,1,0,1,0,0,1,0,0,1,0,0,1] F_Z155 (kL R pol_Z155 7 N [1,1,0,1,0,0,1,0,0,1,0,0] F_Z155 b (kB R pol_Z155 2 (kB R pol_Z155 1 (kS R pol_Z155 5 N [1,1,0,1,0,0,1,1] F_Z155 (kL R pol_Z155 4 N [1,1,0,1,0,0] F_Z155 a (kB R pol_Z155 0 (q0_2 R N (qqM E sg_Z155 F_Z155)))))))))
def Z155.l2(R:Run)(N a n:Nat)(b:vS)(e f:Int):Option Dv:=R.w (some ⟨(.c (.ip yS b 0)::(V.dead::(V.dead::(.c (.d yI e)::(.c (.d yI f)::(zd 87 [])))))),(zo 93 [])⟩) fun st=>lC R pol_Z155 7 N [1,1,0,1,0,0,1,0,0,1,0,0] F_Z155 n st (kB R pol_Z155 2 (kB R pol_Z155 1 (kS R pol_Z155 5 N [1,1,0,1,0,0,1,1] F_Z155 (kL R pol_Z155 4 N [1,1,0,1,0,0] F_Z155 a (kB R pol_Z155 0 (q0_2 R N (qqM E sg_Z155 F_Z155)))))))
def Z155.l1(R:Run)(N n:Nat)(a:vS)(b:Int):Option Dv:=R.w (some ⟨(.c (.ip yS a 0)::(V.dead::(V.dead::(.c (.d yI b)::(zd 88 []))))),(zo 93 [])⟩) fun st=>lC R pol_Z155 4 N [1,1,0,1,0,0] F_Z155 n st (kB R pol_Z155 0 (q0_2 R N (qqM E sg_Z155 F_Z155)))
def Z155.j0(R:Run)(N:Nat)(a:vS)(b:Bool):Option Dv:=R.w (some ⟨(.c (.ip yS a 0)::(zd 39 (.c (.d .bool b)::(zd 51 [])))),(zo 93 [])⟩) fun st=>eC R pol_Z155 N [1,0,1] F_Z155 st (kS R pol_Z155 3 N [1,1] F_Z155 (qqM E sg_Z155 F_Z155))
theorem Z155.j3_eq(R:Run)(hw:R.ok)(N a b:Nat)(c:vS)(d e:Int)(f:Bool):Z155.j3 R N a b c d e f=(bif f then((qgL R n_Z156 o_Z156 [⟨(.ptr yC),(c.1,())⟩,⟨yI,d⟩,⟨yI,e⟩]).bind fun r15=>((idx? c.2.2.2.1 r15.1).bind fun y16=>((qgL R n_Z154 o_Z154 [⟨(.ptr yS),c⟩,⟨yI,d⟩,⟨yI,e⟩,⟨(.ptr yM),y16⟩]).bind fun r17=>(bif (!r17.1) then some ⟨o_Z155,(false,())⟩ else(Z155.l2 R N a b c d (w64 (e+1))))))) else(Z155.l1 R N a c (w64 (d+1)))):=(hw _ _).trans (by kernel_rfl)
theorem Z155.l2_succ(R:Run)(hw:R.ok)(N a n:Nat)(b:vS)(c d:Int):Z155.l2 R N a (n+1) b c d=((idx? b.1 c).bind fun y9=>(bif (decide (d<(List.length (y9,()).1:Int))) then((idx? b.1 c).bind fun y10=>(Z155.j3 R N a n b c d (decide ((List.length (y10,()).1:Int)>(1:Int))))) else(Z155.j3 R N a n b c d false))):=(hw _ _).trans (by kernel_rfl)
theorem Z155.l1_succ(R:Run)(hw:R.ok)(N n:Nat)(a:vS)(b:Int):Z155.l1 R N (n+1) a b=(bif (decide (b<(List.length a.1:Int))) then(Z155.l2 R N n N a b (0:Int)) else some ⟨o_Z155,(true,())⟩):=(hw _ _).trans (by kernel_rfl)
theorem Z155.j0_eq(R:Run)(hw:R.ok)(N:Nat)(a:vS)(b:Bool):Z155.j0 R N a b=(bif b then some ⟨o_Z155,(false,())⟩ else(Z155.l1 R N N a (0:Int))):=(hw _ _).trans (by kernel_rfl)
theorem Z155.ev(R:Run)(N:Nat)(a0:vS):qqq E R sg_Z155 pol_Z155 F_Z155 N [⟨(.ptr yS),a0⟩]=((qgL R n_Z149 o_Z149 [⟨(.ptr yC),(a0.1,())⟩]).bind fun r1=>(bif (!r1.1) then(Z155.j0 R N a0 true) else((qgL R n_Z125 o_Z125 [⟨yI,a0.2.1⟩]).bind fun r27=>(bif (!r27.1) then(Z155.j0 R N a0 true) else((qgL R n_Z158 o_Z158 [⟨(.ptr yC),(a0.1,())⟩,⟨yL,a0.2.2.1⟩]).bind fun r30=>(bif (!r30.1) then(Z155.j0 R N a0 true) else((qgL R n_Z151 o_Z151 [⟨(.ptr yC),(a0.1,())⟩]).bind fun r33=>(Z155.j0 R N a0 ((List.length a0.2.2.2.1:Int) != r33.1))))))))):=by kernel_rfl
theorem Z152.ev(R:Run)(N:Nat)(a0:vS)(a1 a2:Int):qqq E R sg_Z152 pol_Z152 F_Z152 N [⟨(.ptr yS),a0⟩,⟨yI,a1⟩,⟨yI,a2⟩]=((qgL R n_Z156 o_Z156 [⟨(.ptr yC),(a0.1,())⟩,⟨yI,a1⟩,⟨yI,a2⟩]).bind fun r1=>((idx? a0.2.2.2.1 r1.1).bind fun y2=>some ⟨o_Z152,(y2,())⟩)):=by kernel_rfl
theorem Z142.ev(R:Run)(N:Nat)(a0 a1 a2:Int):qqq E R sg_Z142 pol_Z142 F_Z142 N [⟨yI,a0⟩,⟨yI,a1⟩,⟨yI,a2⟩]=((chk (decide (0≤(w64 (a1*a2)))&&decide ((w64 (a1*a2))*8≤70368744177664))).bind fun _=>some ⟨o_Z142,(a0,a1,a2,(List.replicate (Int.toNat (w64 (a1*a2))) (0:Int)),())⟩):=by kernel_rfl
def Z140.l3(R:Run)(N a b n:Nat)(e f:vM)(g h i j k l m o p q:Int)(r:List Int):Option Dv:=R.w (some ⟨(.c (.ip yM e 0)::(.c (.ip yM f 0)::(V.dead::(V.dead::(.c (.box 4 0)::(.c (.box 5 0)::(.c (.d yI g)::(.c (.d yI h)::(.c (.d yI i)::(.c (.d yI j)::(zd 86 []))))))))))),(zo 4 (some (.box [.d yI k,.d yI l,.d yI m,.nils yI] false false)::(some (.box [.d yI o,.d yI p,.d yI q,.arr 98] false false)::(zo 92 (some (.arr yI r true false false)::[])))))⟩) fun st=>lC R pol_Z140 10 N [1,1,0,1,0,0,1,0,0,1,0,0,1,0,0,1,0,1,0,0] F_Z140 n st (kB R pol_Z140 4 (kS R pol_Z140 13 N [1,1,0,1,0,0,1,0,0,1,0,0,1,0,0,1,1] F_Z140 (kB R pol_Z140 3 (kS R pol_Z140 7 N [1,1,0,1,0,0,1,0,0,1,0,0,1,1] F_Z140 (kL R pol_Z140 6 N [1,1,0,1,0,0,1,0,0,1,0,0] F_Z140 b (kB R pol_Z140 2 (kB R pol_Z140 1 (kS R pol_Z140 4 N [1,1,0,1,0,0,1,1] F_Z140 (kL R pol_Z140 3 N [1,1,0,1,0,0] F_Z140 a (kB R pol_Z140 0 (q0_3 R N (qqM E sg_Z140 F_Z140))))))))))))
def Z140.l2(R:Run)(N a n:Nat)(b e:vM)(f g h i j k l m:Int)(o:List Int):Option Dv:=R.w (some ⟨(.c (.ip yM b 0)::(.c (.ip yM e 0)::(V.dead::(V.dead::(.c (.box 4 0)::(.c (.box 5 0)::(.c (.d yI f)::(.c (.d yI g)::(zd 88 []))))))))),(zo 4 (some (.box [.d yI h,.d yI i,.d yI j,.nils yI] false false)::(some (.box [.d yI k,.d yI l,.d yI m,.arr 98] false false)::(zo 92 (some (.arr yI o true false false)::[])))))⟩) fun st=>lC R pol_Z140 6 N [1,1,0,1,0,0,1,0,0,1,0,0] F_Z140 n st (kB R pol_Z140 2 (kB R pol_Z140 1 (kS R pol_Z140 4 N [1,1,0,1,0,0,1,1] F_Z140 (kL R pol_Z140 3 N [1,1,0,1,0,0] F_Z140 a (kB R pol_Z140 0 (q0_3 R N (qqM E sg_Z140 F_Z140)))))))
def Z140.l1(R:Run)(N n:Nat)(a b:vM)(e f g h i j k:Int)(l:List Int):Option Dv:=R.w (some ⟨(.c (.ip yM a 0)::(.c (.ip yM b 0)::(V.dead::(V.dead::(.c (.box 4 0)::(.c (.box 5 0)::(.c (.d yI e)::(zd 89 [])))))))),(zo 4 (some (.box [.d yI f,.d yI g,.d yI h,.nils yI] false false)::(some (.box [.d yI i,.d yI j,.d yI k,.arr 98] false false)::(zo 92 (some (.arr yI l true false false)::[])))))⟩) fun st=>lC R pol_Z140 3 N [1,1,0,1,0,0] F_Z140 n st (kB R pol_Z140 0 (q0_3 R N (qqM E sg_Z140 F_Z140)))
def Z140.j0(R:Run)(N:Nat)(a b:vM)(e f g h i j:Int)(k:List Int):Option Dv:=R.w (some ⟨(.c (.ip yM a 0)::(.c (.ip yM b 0)::(V.dead::(V.dead::(.c (.box 4 0)::(.c (.box 5 0)::(zd 90 []))))))),(zo 4 (some (.box [.d yI e,.d yI f,.d yI g,.nils yI] false false)::(some (.box [.d yI h,.d yI i,.d yI j,.arr 98] false false)::(zo 92 (some (.arr yI k true false false)::[])))))⟩) fun st=>eC R pol_Z140 N [1,1] F_Z140 st (qqM E sg_Z140 F_Z140)
theorem Z140.l3_succ(R:Run)(hw:R.ok)(N a b n:Nat)(c d:vM)(e f g h i j k l m o:Int)(p:List Int):Z140.l3 R N a b (n+1) c d e f g h i j k l m o p=(bif (decide (h<c.2.2.1)) then((idx? c.2.2.2.1 (w64 ((w64 (e*c.2.2.1))+h))).bind fun y45=>((idx? d.2.2.2.1 (w64 ((w64 (h*d.2.2.1))+f))).bind fun y46=>(Z140.l3 R N a b n c d e f (w64 (g+(w64 ((y45,()).1*(y46,()).1)))) (w64 (h+1)) i j k l m o p))) else((chk (c.1 != 0)).bind fun _=>((chk (decide (0≤(w64 ((w64 (e*d.2.2.1))+f)))&&decide ((w64 ((w64 (e*d.2.2.1))+f))<(List.length p:Int)))).bind fun _=>(Z140.l2 R N a b c d e (w64 (f+1)) i j k l m o (List.set p (Int.toNat (w64 ((w64 (e*d.2.2.1))+f))) (Int.tmod g c.1)))))):=(hw _ _).trans (by kernel_rfl)
theorem Z140.l2_succ(R:Run)(hw:R.ok)(N a n:Nat)(b c:vM)(d e f g h i j k:Int)(l:List Int):Z140.l2 R N a (n+1) b c d e f g h i j k l=(bif (decide (e<c.2.2.1)) then(Z140.l3 R N a n N b c d e (0:Int) (0:Int) f g h i j k l) else(Z140.l1 R N a b c (w64 (d+1)) f g h i j k l)):=(hw _ _).trans (by kernel_rfl)
theorem Z140.l1_succ(R:Run)(hw:R.ok)(N n:Nat)(a b:vM)(c d e f g h i:Int)(j:List Int):Z140.l1 R N (n+1) a b c d e f g h i j=(bif (decide (c<a.2.1)) then(Z140.l2 R N n N a b c (0:Int) d e f g h i j) else some ⟨o_Z140,(g,h,i,j,())⟩):=(hw _ _).trans (by kernel_rfl)
theorem Z140.j0_eq(R:Run)(hw:R.ok)(N:Nat)(a b:vM)(c d e f g h:Int)(i:List Int):Z140.j0 R N a b c d e f g h i=(Z140.l1 R N N a b (0:Int) c d e f g h i):=(hw _ _).trans (by kernel_rfl)
theorem Z140.ev(R:Run)(N:Nat)(a0 a1:vM):qqq E R sg_Z140 pol_Z140 F_Z140 N [⟨(.ptr yM),a0⟩,⟨(.ptr yM),a1⟩]=(qoY ((qgL R n_Z142 o_Z142 [⟨yI,a0.1⟩,⟨yI,a0.2.1⟩,⟨yI,a1.2.2.1⟩]).bind fun r1=>(Z140.j0 R N a0 a1 (0:Int) (0:Int) (0:Int) r1.1 r1.2.1 r1.2.2.1 r1.2.2.2.1)) ((qgL R n_Z142 o_Z142 [⟨yI,a0.1⟩,⟨yI,a0.2.1⟩,⟨yI,a1.2.2.1⟩]).bind fun r81=>(Z140.j0 R N a0 a1 (0:Int) (0:Int) (0:Int) r81.1 r81.2.1 r81.2.2.1 r81.2.2.2.1))):=by kernel_rfl
def Z160.j0(R:Run)(N:Nat)(a:vS)(b e f g h i j:Int):Option Dv:=R.w (some ⟨(.c (.ip yS a 0)::(.c (.d yI b)::(.c (.d yI e)::(.c (.d yI f)::(zd 4 (.c (.box 8 0)::(.c (.d yI g)::(zd 22 [])))))))),(zo 8 (some (.box [.d yI h,.d yI i,.d yI j,.nils yI] false false)::(zo 28 [])))⟩) fun st=>eC R pol_Z160 N [1,1,1] F_Z160 st (qqM E sg_Z160 F_Z160)
theorem Z160.j0_eq(R:Run)(hw:R.ok)(N:Nat)(a:vS)(b c d e f g h:Int):Z160.j0 R N a b c d e f g h=((qgL R n_Z152 o_Z152 [⟨(.ptr yS),a⟩,⟨yI,b⟩,⟨yI,c⟩]).bind fun r11=>((qgL R n_Z152 o_Z152 [⟨(.ptr yS),a⟩,⟨yI,e⟩,⟨yI,d⟩]).bind fun r12=>((qgL R n_Z140 o_Z140 [⟨(.ptr yM),r11.1⟩,⟨(.ptr yM),r12.1⟩]).bind fun r13=>some ⟨o_Z160,(r13.1,r13.2.1,r13.2.2.1,r13.2.2.2.1,())⟩))):=(hw _ _).trans (by kernel_rfl)
theorem Z160.ev(R:Run)(N:Nat)(a0:vS)(a1 a2 a3:Int):qqq E R sg_Z160 pol_Z160 F_Z160 N [⟨(.ptr yS),a0⟩,⟨yI,a1⟩,⟨yI,a2⟩,⟨yI,a3⟩]=((qgL R n_Z146 o_Z146 [⟨(.ptr yC),(a0.1,())⟩,⟨yI,a1⟩]).bind fun r1=>((idx? r1.1 a2).bind fun y2=>(bif (decide (a3>a2)) then(Z160.j0 R N a0 a1 a2 (w64 (a3-1)) ((y2,()).1) (0:Int) (0:Int) (0:Int)) else(Z160.j0 R N a0 a1 a2 a3 ((y2,()).1) (0:Int) (0:Int) (0:Int))))):=by kernel_rfl
def Z139.l1(R:Run)(N n:Nat)(a b:vM)(e:Int):Option Dv:=R.w (some ⟨(.c (.ip yM a 0)::(.c (.ip yM b 0)::(zd 3 (.c (.d yI e)::(zd 68 []))))),(zo 76 [])⟩) fun st=>lC R pol_Z139 4 N [1,1,0,1,0,0] F_Z139 n st (kB R pol_Z139 0 (kS R pol_Z139 8 N [1,1,1] F_Z139 (qqM E sg_Z139 F_Z139)))
def Z139.j0(R:Run)(N:Nat)(a b:vM)(e:Bool):Option Dv:=R.w (some ⟨(.c (.ip yM a 0)::(.c (.ip yM b 0)::(zd 47 (.c (.d .bool e)::(zd 24 []))))),(zo 76 [])⟩) fun st=>eC R pol_Z139 N [1,0,1] F_Z139 st (kS R pol_Z139 3 N [1,1] F_Z139 (qqM E sg_Z139 F_Z139))
theorem Z139.l1_succ(R:Run)(hw:R.ok)(N n:Nat)(a b:vM)(c:Int):Z139.l1 R N (n+1) a b c=(bif (decide (c<(List.length a.2.2.2.1:Int))) then((idx? a.2.2.2.1 c).bind fun y7=>((idx? b.2.2.2.1 c).bind fun y8=>(bif ((y7,()).1 != (y8,()).1) then some ⟨o_Z139,(false,())⟩ else(Z139.l1 R N n a b (w64 (c+1)))))) else some ⟨o_Z139,(true,())⟩):=(hw _ _).trans (by kernel_rfl)
theorem Z139.j0_eq(R:Run)(hw:R.ok)(N:Nat)(a b:vM)(c:Bool):Z139.j0 R N a b c=(bif c then some ⟨o_Z139,(false,())⟩ else(Z139.l1 R N N a b (0:Int))):=(hw _ _).trans (by kernel_rfl)
theorem Z139.ev(R:Run)(N:Nat)(a0 a1:vM):qqq E R sg_Z139 pol_Z139 F_Z139 N [⟨(.ptr yM),a0⟩,⟨(.ptr yM),a1⟩]=(bif (a0.1 != a1.1) then(Z139.j0 R N a0 a1 true) else(bif (a0.2.1 != a1.2.1) then(Z139.j0 R N a0 a1 true) else(bif (a0.2.2.1 != a1.2.2.1) then(Z139.j0 R N a0 a1 true) else(Z139.j0 R N a0 a1 ((List.length a0.2.2.2.1:Int) != (List.length a1.2.2.2.1:Int)))))):=by kernel_rfl
def Z161.l3(R:Run)(N a b n:Nat)(e:vS)(f g h i:Int):Option Dv:=R.w (some ⟨(.c (.ip yS e 0)::(zd 4 (.c (.d yI f)::(.c (.d yI g)::(.c (.d yI h)::(.c (.d yI i)::(zd 52 []))))))),(zo 62 [])⟩) fun st=>lC R pol_Z161 9 N [1,0,1,0,0,1,0,0,1,1,0,0,1,0,0,1,0,0] F_Z161 n st (kB R pol_Z161 4 (kB R pol_Z161 3 (kS R pol_Z161 7 N [1,0,1,0,0,1,0,0,1,1,0,0,1,1] F_Z161 (kL R pol_Z161 6 N [1,0,1,0,0,1,0,0,1,1,0,0] F_Z161 b (kB R pol_Z161 2 (kB R pol_Z161 1 (q0_4 R N (q0_7 R N a (kB R pol_Z161 0 (q0_5 R N (qqM E sg_Z161 F_Z161)))))))))))
def Z161.j2(R:Run)(N a b:Nat)(e:vS)(f g h:Int)(i:Bool):Option Dv:=R.w (some ⟨(.c (.ip yS e 0)::(zd 4 (.c (.d yI f)::(.c (.d yI g)::(.c (.d yI h)::(zd 28 (.c (.d .bool i)::(zd 24 [])))))))),(zo 62 [])⟩) fun st=>eC R pol_Z161 N [1,0,1,0,0,1,0,0,1,1,0,0,0,1] F_Z161 st (kS R pol_Z161 8 N [1,0,1,0,0,1,0,0,1,1,0,0,1] F_Z161 (kL R pol_Z161 6 N [1,0,1,0,0,1,0,0,1,1,0,0] F_Z161 b (kB R pol_Z161 2 (kB R pol_Z161 1 (q0_4 R N (q0_7 R N a (kB R pol_Z161 0 (q0_5 R N (qqM E sg_Z161 F_Z161)))))))))
def Z161.l1(R:Run)(N a n:Nat)(b:vS)(e f g:Int):Option Dv:=R.w (some ⟨(.c (.ip yS b 0)::(zd 4 (.c (.d yI e)::(.c (.d yI f)::(.c (.d yI g)::(zd 53 [])))))),(zo 62 [])⟩) fun st=>lC R pol_Z161 6 N [1,0,1,0,0,1,0,0,1,1,0,0] F_Z161 n st (kB R pol_Z161 2 (kB R pol_Z161 1 (q0_4 R N (q0_7 R N a (kB R pol_Z161 0 (q0_5 R N (qqM E sg_Z161 F_Z161)))))))
def Z161.l0(R:Run)(N n:Nat)(a:vS)(b:Int):Option Dv:=R.w (some ⟨(.c (.ip yS a 0)::(zd 4 (.c (.d yI b)::(zd 55 [])))),(zo 62 [])⟩) fun st=>lC R pol_Z161 2 N [1,0,1,0,0] F_Z161 n st (kB R pol_Z161 0 (q0_5 R N (qqM E sg_Z161 F_Z161)))
theorem Z161.l3_succ(R:Run)(hw:R.ok)(N a b n:Nat)(c:vS)(d e f g:Int):Z161.l3 R N a b (n+1) c d e f g=(bif (decide (g<e)) then((qgL R n_Z160 o_Z160 [⟨(.ptr yS),c⟩,⟨yI,d⟩,⟨yI,f⟩,⟨yI,g⟩]).bind fun r18=>((qgL R n_Z160 o_Z160 [⟨(.ptr yS),c⟩,⟨yI,d⟩,⟨yI,g⟩,⟨yI,f⟩]).bind fun r19=>((qgL R n_Z139 o_Z139 [⟨(.ptr yM),(r18.1,r18.2.1,r18.2.2.1,r18.2.2.2.1,())⟩,⟨(.ptr yM),(r19.1,r19.2.1,r19.2.2.1,r19.2.2.2.1,())⟩]).bind fun r20=>(bif (!r20.1) then some ⟨o_Z161,(d,f,g,())⟩ else(Z161.l3 R N a b n c d e f (w64 (g+1))))))) else(Z161.l1 R N a b c d e (w64 (f+1)))):=(hw _ _).trans (by kernel_rfl)
theorem Z161.j2_eq(R:Run)(hw:R.ok)(N a b:Nat)(c:vS)(d e f:Int)(g:Bool):Z161.j2 R N a b c d e f g=(bif g then(Z161.l3 R N a b N c d e f (w64 (f+1))) else(Z161.l0 R N a c (w64 (d+1)))):=(hw _ _).trans (by kernel_rfl)
theorem Z161.l1_succ(R:Run)(hw:R.ok)(N a n:Nat)(b:vS)(c d e:Int):Z161.l1 R N a (n+1) b c d e=(bif (decide (e<d)) then(Z161.j2 R N a n b c d e (decide (d>(2:Int)))) else(Z161.j2 R N a n b c d e false)):=(hw _ _).trans (by kernel_rfl)
theorem Z161.l0_succ(R:Run)(hw:R.ok)(N n:Nat)(a:vS)(b:Int):Z161.l0 R N (n+1) a b=(bif (decide (b<(List.length a.1:Int))) then((idx? a.1 b).bind fun y3=>(Z161.l1 R N n N a b (List.length (y3,()).1:Int) (0:Int))) else some ⟨o_Z161,((-1:Int),(0:Int),(0:Int),())⟩):=(hw _ _).trans (by kernel_rfl)
theorem Z161.ev(R:Run)(N:Nat)(a0:vS):qqq E R sg_Z161 pol_Z161 F_Z161 N [⟨(.ptr yS),a0⟩]=(Z161.l0 R N N a0 (0:Int)):=by kernel_rfl
theorem Z153.ev(R:Run)(N:Nat)(a0:vS):qqq E R sg_Z153 pol_Z153 F_Z153 N [⟨(.ptr yS),a0⟩]=((qgL R n_Z155 o_Z155 [⟨(.ptr yS),a0⟩]).bind fun r1=>(bif (!r1.1) then some ⟨o_Z153,(false,())⟩ else((qgL R n_Z161 o_Z161 [⟨(.ptr yS),a0⟩]).bind fun r2=>some ⟨o_Z153,((decide (r2.1<(0:Int))),())⟩))):=by kernel_rfl
theorem Z162.ev(R:Run)(N:Nat)(a0:vS):qqq E R sg_Z162 pol_Z162 F_Z162 N [⟨(.ptr yS),a0⟩]=((qgL R n_Z159 o_Z159 [⟨(.ptr yC),(a0.1,())⟩,⟨yL,a0.2.2.1⟩,⟨yI,(0:Int)⟩]).bind fun r1=>some ⟨o_Z162,(r1.1,())⟩):=by kernel_rfl
def Z170.l0(R:Run)(N n:Nat)(a:vS)(b e f:Int):Option Dv:=R.w (some ⟨(.c (.ip yS a 0)::(.c (.d yI b)::(zd 3 (.c (.d yI e)::(.c (.d yI f)::(zd 15 [])))))),(zo 24 [])⟩) fun st=>lC R pol_Z170 3 N [1,1,0,1,0,0] F_Z170 n st (kB R pol_Z170 0 (kS R pol_Z170 6 N [1,1,1] F_Z170 (qqM E sg_Z170 F_Z170)))
theorem Z170.l0_succ(R:Run)(hw:R.ok)(N n:Nat)(a:vS)(b c d:Int):Z170.l0 R N (n+1) a b c d=(bif (decide (d<b)) then((idx? a.2.2.1 d).bind fun y5=>(Z170.l0 R N n a b (w64 (c+(y5,()).1)) (w64 (d+1)))) else some ⟨o_Z170,(c,())⟩):=(hw _ _).trans (by kernel_rfl)
theorem Z170.ev(R:Run)(N:Nat)(a0:vS)(a1:Int):qqq E R sg_Z170 pol_Z170 F_Z170 N [⟨(.ptr yS),a0⟩,⟨yI,a1⟩]=(Z170.l0 R N N a0 a1 (0:Int) (0:Int)):=by kernel_rfl
def Z168.l1(R:Run)(N a n:Nat)(b:vM)(e f g h i:Int)(j:vK)(k:List Int):Option Dv:=R.w (some ⟨(.c (.ip yM b 0)::(.c (.d yI e)::(.c (.d yI f)::(.c (.d yI g)::(zd 5 (.c (.arr 13)::(.c (.d yI h)::(.c (.arr 23)::(.c (.d yI i)::(zd 50 [])))))))))),(zo 13 (some (.arr yL j true false false)::(zo 9 (some (.arr yI k true false false)::(zo 43 [])))))⟩) fun st=>lC R pol_Z168 7 N [1,1,0,1,0,0,1,0,0,1,0,1,0,0] F_Z168 n st (kB R pol_Z168 2 (kS R pol_Z168 10 N [1,1,0,1,0,0,1,0,0,1,1] F_Z168 (kB R pol_Z168 1 (kS R pol_Z168 4 N [1,1,0,1,0,0,1,1] F_Z168 (kL R pol_Z168 3 N [1,1,0,1,0,0] F_Z168 a (kB R pol_Z168 0 (kS R pol_Z168 11 N [1,1,1] F_Z168 (qqM E sg_Z168 F_Z168))))))))
def Z168.l0(R:Run)(N n:Nat)(a:vM)(b e f g:Int)(h:vK):Option Dv:=R.w (some ⟨(.c (.ip yM a 0)::(.c (.d yI b)::(.c (.d yI e)::(.c (.d yI f)::(zd 5 (.c (.arr 13)::(.c (.d yI g)::(zd 52 [])))))))),(zo 13 (some (.arr yL h true false false)::(zo 53 [])))⟩) fun st=>lC R pol_Z168 3 N [1,1,0,1,0,0] F_Z168 n st (kB R pol_Z168 0 (kS R pol_Z168 11 N [1,1,1] F_Z168 (qqM E sg_Z168 F_Z168)))
theorem Z168.l1_succ(R:Run)(hw:R.ok)(N a n:Nat)(b:vM)(c d e f g:Int)(h:vK)(i:List Int):Z168.l1 R N a (n+1) b c d e f g h i=(bif (decide (g<b.2.2.1)) then((idx? b.2.2.2.1 (w64 ((w64 (f*b.2.2.1))+g))).bind fun y15=>((chk (b.1 != 0)).bind fun _=>((chk (decide (0≤(w64 (c+g)))&&decide ((w64 (c+g))<(List.length i:Int)))).bind fun _=>(Z168.l1 R N a n b c d e f (w64 (g+1)) h (List.set i (Int.toNat (w64 (c+g))) (Int.tmod (w64 ((y15,()).1*e)) b.1)))))) else((chk (decide ((List.length h+List.length [i])*24≤70368744177664))).bind fun _=>(Z168.l0 R N a b c d e (w64 (f+1)) (h++[i])))):=(hw _ _).trans (by kernel_rfl)
theorem Z168.l0_succ(R:Run)(hw:R.ok)(N n:Nat)(a:vM)(b c d e:Int)(f:vK):Z168.l0 R N (n+1) a b c d e f=(bif (decide (e<a.2.1)) then((chk (decide (0≤c)&&decide (c*8≤70368744177664))).bind fun _=>(Z168.l1 R N n N a b c d e (0:Int) f (List.replicate (Int.toNat c) (0:Int)))) else some ⟨o_Z168,(f,())⟩):=(hw _ _).trans (by kernel_rfl)
theorem Z168.ev(R:Run)(N:Nat)(a0:vM)(a1 a2 a3:Int):qqq E R sg_Z168 pol_Z168 F_Z168 N [⟨(.ptr yM),a0⟩,⟨yI,a1⟩,⟨yI,a2⟩,⟨yI,a3⟩]=(Z168.l0 R N N a0 a1 a2 a3 (0:Int) ([]:List (List Int))):=by kernel_rfl
def Z131.l0(R:Run)(N n:Nat)(a b:List Int)(e f g:Int)(h:List Int):Option Dv:=R.w (some ⟨(.c (.d yL a)::(.c (.d yL b)::(.c (.d yI e)::(.c (.d yI f)::(zd 5 (.c (.arr 11)::(.c (.d yI g)::(zd 24 [])))))))),(zo 11 (some (.arr yI h true false false)::(zo 27 [])))⟩) fun st=>lC R pol_Z131 3 N [1,1,0,1,0,0] F_Z131 n st (kB R pol_Z131 0 (kS R pol_Z131 6 N [1,1,1] F_Z131 (qqM E sg_Z131 F_Z131)))
theorem Z131.l0_succ(R:Run)(hw:R.ok)(N n:Nat)(a b:List Int)(c d e:Int)(f:List Int):Z131.l0 R N (n+1) a b c d e f=(bif (decide (e<(List.length a:Int))) then((idx? a e).bind fun y7=>((idx? b e).bind fun y8=>((chk (d != 0)).bind fun _=>((chk (decide ((List.length f+List.length [(Int.tmod (w64 ((y7,()).1+(w64 (c*(y8,()).1)))) d)])*8≤70368744177664))).bind fun _=>(Z131.l0 R N n a b c d (w64 (e+1)) (f++[(Int.tmod (w64 ((y7,()).1+(w64 (c*(y8,()).1)))) d)])))))) else some ⟨o_Z131,(f,())⟩):=(hw _ _).trans (by kernel_rfl)
theorem Z131.ev(R:Run)(N:Nat)(a0 a1:List Int)(a2 a3:Int):qqq E R sg_Z131 pol_Z131 F_Z131 N [⟨yL,a0⟩,⟨yL,a1⟩,⟨yI,a2⟩,⟨yI,a3⟩]=(Z131.l0 R N N a0 a1 a2 a3 (0:Int) ([]:List Int)):=by kernel_rfl
def Z171.l0(R:Run)(N n:Nat)(a b:vK)(e f:Int)(g:vK):Option Dv:=R.w (some ⟨(.c (.d yK a)::(.c (.d yK b)::(.c (.d yI e)::(zd 4 (.c (.arr 9)::(.c (.d yI f)::(zd 21 []))))))),(zo 9 (some (.arr yL g true false false)::(zo 24 [])))⟩) fun st=>lC R pol_Z171 3 N [1,1,0,1,0,0] F_Z171 n st (kB R pol_Z171 0 (kS R pol_Z171 6 N [1,1,1] F_Z171 (qqM E sg_Z171 F_Z171)))
theorem Z171.l0_succ(R:Run)(hw:R.ok)(N n:Nat)(a b:vK)(c d:Int)(e:vK):Z171.l0 R N (n+1) a b c d e=(bif (decide (d<(List.length a:Int))) then((idx? a d).bind fun y6=>((idx? b d).bind fun y7=>((qgL R n_Z131 o_Z131 [⟨yL,(y6,()).1⟩,⟨yL,(y7,()).1⟩,⟨yI,(1:Int)⟩,⟨yI,c⟩]).bind fun r8=>((chk (decide ((List.length e+List.length [r8.1])*24≤70368744177664))).bind fun _=>(Z171.l0 R N n a b c (w64 (d+1)) (e++[r8.1])))))) else some ⟨o_Z171,(e,())⟩):=(hw _ _).trans (by kernel_rfl)
theorem Z171.ev(R:Run)(N:Nat)(a0 a1:vK)(a2:Int):qqq E R sg_Z171 pol_Z171 F_Z171 N [⟨yK,a0⟩,⟨yK,a1⟩,⟨yI,a2⟩]=(Z171.l0 R N N a0 a1 a2 (0:Int) ([]:List (List Int))):=by kernel_rfl
def Z163.l0(R:Run)(N n:Nat)(a:vS)(b:Int)(e:List Int)(f:Int)(g:vK):Option Dv:=R.w (some ⟨(.c (.ip yS a 0)::(V.dead::(V.dead::(.c (.arr 10)::(.c (.d yI b)::(.c (.d yL e)::(.c (.d yI f)::(zd 65 [])))))))),(zo 10 (some (.arr yL g true false false)::(zo 63 [])))⟩) fun st=>lC R pol_Z163 5 N [1,1,1,1,0,1,0,0] F_Z163 n st (kB R pol_Z163 0 (kS R pol_Z163 11 N [1,1,1,1,1] F_Z163 (qqM E sg_Z163 F_Z163)))
theorem Z163.l0_succ(R:Run)(hw:R.ok)(N n:Nat)(a:vS)(b:Int)(c:List Int)(d:Int)(e:vK):Z163.l0 R N (n+1) a b c d e=(bif (decide (d<(List.length c:Int))) then((idx? c d).bind fun y8=>((qgL R n_Z146 o_Z146 [⟨(.ptr yC),(a.1,())⟩,⟨yI,(y8,()).1⟩]).bind fun r9=>((idx? c d).bind fun y10=>((idx? r9.1 (0:Int)).bind fun y11=>((qgL R n_Z152 o_Z152 [⟨(.ptr yS),a⟩,⟨yI,(y10,()).1⟩,⟨yI,(0:Int)⟩]).bind fun r12=>((qgL R n_Z170 o_Z170 [⟨(.ptr yS),a⟩,⟨yI,(y11,()).1⟩]).bind fun r13=>((qgL R n_Z168 o_Z168 [⟨(.ptr yM),r12.1⟩,⟨yI,r13.1⟩,⟨yI,b⟩,⟨yI,(1:Int)⟩]).bind fun r14=>((idx? c d).bind fun y15=>((idx? r9.1 (1:Int)).bind fun y16=>((qgL R n_Z152 o_Z152 [⟨(.ptr yS),a⟩,⟨yI,(y15,()).1⟩,⟨yI,(1:Int)⟩]).bind fun r17=>((qgL R n_Z170 o_Z170 [⟨(.ptr yS),a⟩,⟨yI,(y16,()).1⟩]).bind fun r18=>((qgL R n_Z168 o_Z168 [⟨(.ptr yM),r17.1⟩,⟨yI,r18.1⟩,⟨yI,b⟩,⟨yI,(w64 (a.2.1-(1:Int)))⟩]).bind fun r19=>((qgL R n_Z171 o_Z171 [⟨yK,r14.1⟩,⟨yK,r19.1⟩,⟨yI,a.2.1⟩]).bind fun r20=>((chk (decide ((List.length e+List.length r20.1)*24≤70368744177664))).bind fun _=>(Z163.l0 R N n a b c (w64 (d+1)) (e++r20.1)))))))))))))))) else some ⟨o_Z163,(e,())⟩):=(hw _ _).trans (by kernel_rfl)
theorem Z163.ev(R:Run)(N:Nat)(a0:vS):qqq E R sg_Z163 pol_Z163 F_Z163 N [⟨(.ptr yS),a0⟩]=((qgL R n_Z162 o_Z162 [⟨(.ptr yS),a0⟩]).bind fun r1=>((qgL R n_Z148 o_Z148 [⟨(.ptr yC),(a0.1,())⟩,⟨yI,(1:Int)⟩]).bind fun r2=>(Z163.l0 R N N a0 r1.1 r2.1 (0:Int) ([]:List (List Int))))):=by kernel_rfl
theorem Z164.ev(R:Run)(N:Nat)(a0:vS)(a1:Int):qqq E R sg_Z164 pol_Z164 F_Z164 N [⟨(.ptr yS),a0⟩,⟨yI,a1⟩]=((idx? a0.1 a1).bind fun y1=>((chk (decide (0≤(1:Int))&&decide ((1:Int)≤(List.length (y1,()).1:Int)))).bind fun _=>((qgL R n_Z147 o_Z147 [⟨(.ptr yC),(a0.1,())⟩,⟨yL,(List.take (Int.toNat (1:Int)) (y1,()).1)⟩]).bind fun r2=>some ⟨o_Z164,(r2.1,())⟩))):=by kernel_rfl
def Z141.l0(R:Run)(N n:Nat)(a b e f g h i j:Int)(k:List Int):Option Dv:=R.w (some ⟨(V.dead::(.c (.d yI a)::(V.dead::(V.dead::(.c (.box 4 0)::(.c (.box 5 0)::(.c (.d yI b)::(zd 18 [])))))))),(zo 4 (some (.box [.d yI e,.d yI f,.d yI g,.nils yI] false false)::(some (.box [.d yI h,.d yI i,.d yI j,.arr 27] false false)::(zo 21 (some (.arr yI k true false false)::[])))))⟩) fun st=>lC R pol_Z141 3 N [1,1,0,1,0,0] F_Z141 n st (kB R pol_Z141 0 (kS R pol_Z141 6 N [1,1,1] F_Z141 (qqM E sg_Z141 F_Z141)))
theorem Z141.l0_succ(R:Run)(hw:R.ok)(N n:Nat)(a b c d e f g h:Int)(i:List Int):Z141.l0 R N (n+1) a b c d e f g h i=(bif (decide (b<a)) then((chk (decide (0≤(w64 ((w64 (b*a))+b)))&&decide ((w64 ((w64 (b*a))+b))<(List.length i:Int)))).bind fun _=>(Z141.l0 R N n a (w64 (b+1)) c d e f g h (List.set i (Int.toNat (w64 ((w64 (b*a))+b))) (1:Int)))) else some ⟨o_Z141,(f,g,h,i,())⟩):=(hw _ _).trans (by kernel_rfl)
theorem Z141.ev(R:Run)(N:Nat)(a0 a1:Int):qqq E R sg_Z141 pol_Z141 F_Z141 N [⟨yI,a0⟩,⟨yI,a1⟩]=((qgL R n_Z142 o_Z142 [⟨yI,a0⟩,⟨yI,a1⟩,⟨yI,a1⟩]).bind fun r1=>(Z141.l0 R N N a1 (0:Int) (0:Int) (0:Int) (0:Int) r1.1 r1.2.1 r1.2.2.1 r1.2.2.2.1)):=by kernel_rfl
def Z126.l0(R:Run)(N n:Nat)(a:List Int)(b e:Int):Option Dv:=R.w (some ⟨(.c (.d yL a)::(.c (.d yI b)::(zd 3 (.c (.d yI e)::(zd 12 []))))),(zo 20 [])⟩) fun st=>lC R pol_Z126 2 N [1,0,1,0,0] F_Z126 n st (kB R pol_Z126 0 (kS R pol_Z126 6 N [1,1] F_Z126 (qqM E sg_Z126 F_Z126)))
theorem Z126.l0_succ(R:Run)(hw:R.ok)(N n:Nat)(a:List Int)(b c:Int):Z126.l0 R N (n+1) a b c=(bif (decide (c<(List.length a:Int))) then((idx? a c).bind fun y4=>(bif ((y4,()).1==b) then some ⟨o_Z126,(true,())⟩ else(Z126.l0 R N n a b (w64 (c+1))))) else some ⟨o_Z126,(false,())⟩):=(hw _ _).trans (by kernel_rfl)
theorem Z126.ev(R:Run)(N:Nat)(a0:List Int)(a1:Int):qqq E R sg_Z126 pol_Z126 F_Z126 N [⟨yL,a0⟩,⟨yI,a1⟩]=(Z126.l0 R N N a0 a1 (0:Int)):=by kernel_rfl
def Z157.l0(R:Run)(N n:Nat)(a:vS)(b e:Int)(f:List Int)(g h i j:Int):Option Dv:=R.w (some ⟨(.c (.ip yS a 0)::(.c (.d yI b)::(.c (.d yI e)::(zd 3 (.c (.box 6 0)::(.c (.d yL f)::(.c (.d yI g)::(zd 55 [])))))))),(zo 6 (some (.box [.d yI h,.d yI i,.d yI j,.nils yI] false false)::(zo 62 [])))⟩) fun st=>lC R pol_Z157 5 N [1,1,1,1,0,0,0] F_Z157 n st (kB R pol_Z157 0 (kS R pol_Z157 7 N [1,1,1,1,1] F_Z157 (qqM E sg_Z157 F_Z157)))
theorem Z157.l0_succ(R:Run)(hw:R.ok)(N n:Nat)(a:vS)(b c:Int)(d:List Int)(e f g h:Int):Z157.l0 R N (n+1) a b c d e f g h=((idx? a.1 b).bind fun y12=>((idx? d e).bind fun y13=>((qgL R n_Z126 o_Z126 [⟨yL,(y12,()).1⟩,⟨yI,(y13,()).1⟩]).bind fun r14=>(bif r14.1 then(Z157.l0 R N n a b c d (w64 (e+1)) f g h) else((qgL R n_Z146 o_Z146 [⟨(.ptr yC),(a.1,())⟩,⟨yI,c⟩]).bind fun r23=>((idx? r23.1 e).bind fun y24=>((qgL R n_Z157 o_Z157 [⟨(.ptr yS),a⟩,⟨yI,b⟩,⟨yI,(y24,()).1⟩]).bind fun r25=>((qgL R n_Z152 o_Z152 [⟨(.ptr yS),a⟩,⟨yI,c⟩,⟨yI,e⟩]).bind fun r26=>((qgL R n_Z140 o_Z140 [⟨(.ptr yM),r26.1⟩,⟨(.ptr yM),(r25.1,r25.2.1,r25.2.2.1,r25.2.2.2.1,())⟩]).bind fun r27=>some ⟨o_Z157,(r27.1,r27.2.1,r27.2.2.1,r27.2.2.2.1,())⟩))))))))):=(hw _ _).trans (by kernel_rfl)
theorem Z157.ev(R:Run)(N:Nat)(a0:vS)(a1 a2:Int):qqq E R sg_Z157 pol_Z157 F_Z157 N [⟨(.ptr yS),a0⟩,⟨yI,a1⟩,⟨yI,a2⟩]=(bif (a1==a2) then((idx? a0.2.2.1 a1).bind fun y1=>((qgL R n_Z141 o_Z141 [⟨yI,a0.2.1⟩,⟨yI,(y1,()).1⟩]).bind fun r2=>some ⟨o_Z157,(r2.1,r2.2.1,r2.2.2.1,r2.2.2.2.1,())⟩)) else((idx? a0.1 a2).bind fun y3=>(Z157.l0 R N N a0 a1 a2 ((y3,()).1) (0:Int) (0:Int) (0:Int) (0:Int)))):=by kernel_rfl
def Z166.l0(R:Run)(N n:Nat)(a:vS)(b:List Int)(e f:Int)(g:vK):Option Dv:=R.w (some ⟨(.c (.ip yS a 0)::(.c (.d yL b)::(zd 3 (.c (.d yI e)::(.c (.arr 44)::(.c (.d yI f)::(zd 33 []))))))),(zo 44 (some (.arr yL g true false false)::[]))⟩) fun st=>lC R pol_Z166 4 N [1,1,1,0,1,0,0] F_Z166 n st (kB R pol_Z166 0 (kS R pol_Z166 9 N [1,1,1,1] F_Z166 (qqM E sg_Z166 F_Z166)))
theorem Z166.l0_succ(R:Run)(hw:R.ok)(N n:Nat)(a:vS)(b:List Int)(c d:Int)(e:vK):Z166.l0 R N (n+1) a b c d e=(bif (decide (d<(List.length b:Int))) then((idx? b d).bind fun y8=>((qgL R n_Z164 o_Z164 [⟨(.ptr yS),a⟩,⟨yI,(y8,()).1⟩]).bind fun r9=>((idx? b d).bind fun y10=>((qgL R n_Z157 o_Z157 [⟨(.ptr yS),a⟩,⟨yI,r9.1⟩,⟨yI,(y10,()).1⟩]).bind fun r11=>((qgL R n_Z170 o_Z170 [⟨(.ptr yS),a⟩,⟨yI,r9.1⟩]).bind fun r12=>((qgL R n_Z168 o_Z168 [⟨(.ptr yM),(r11.1,r11.2.1,r11.2.2.1,r11.2.2.2.1,())⟩,⟨yI,r12.1⟩,⟨yI,c⟩,⟨yI,(1:Int)⟩]).bind fun r13=>((chk (decide ((List.length e+List.length r13.1)*24≤70368744177664))).bind fun _=>(Z166.l0 R N n a b c (w64 (d+1)) (e++r13.1))))))))) else some ⟨o_Z166,(e,())⟩):=(hw _ _).trans (by kernel_rfl)
theorem Z166.ev(R:Run)(N:Nat)(a0:vS)(a1:List Int):qqq E R sg_Z166 pol_Z166 F_Z166 N [⟨(.ptr yS),a0⟩,⟨yL,a1⟩]=((qgL R n_Z162 o_Z162 [⟨(.ptr yS),a0⟩]).bind fun r1=>((qgL R n_Z163 o_Z163 [⟨(.ptr yS),a0⟩]).bind fun r2=>(Z166.l0 R N N a0 a1 r1.1 (0:Int) r2.1))):=by kernel_rfl
def Z143.l0(R:Run)(N n:Nat)(a:vK)(b e f g h i j:Int)(k:List Int):Option Dv:=R.w (some ⟨(V.dead::(V.dead::(.c (.d yK a)::(zd 3 (.c (.box 6 0)::(.c (.box 7 0)::(.c (.d yI b)::(zd 21 [])))))))),(zo 6 (some (.box [.d yI e,.d yI f,.d yI g,.nils yI] false false)::(some (.box [.d yI h,.d yI i,.d yI j,.arr 13] false false)::(zo 5 (some (.arr yI k true false false)::(zo 19 []))))))⟩) fun st=>lC R pol_Z143 3 N [1,1,0,1,0,0] F_Z143 n st (kB R pol_Z143 0 (kS R pol_Z143 6 N [1,1,1] F_Z143 (qqM E sg_Z143 F_Z143)))
theorem Z143.l0_succ(R:Run)(hw:R.ok)(N n:Nat)(a:vK)(b c d e f g h:Int)(i:List Int):Z143.l0 R N (n+1) a b c d e f g h i=(bif (decide (b<(List.length a:Int))) then((idx? a b).bind fun y10=>((chk (decide ((List.length i+List.length (y10,()).1)*8≤70368744177664))).bind fun _=>(Z143.l0 R N n a (w64 (b+1)) c d e f g h (i++(y10,()).1)))) else some ⟨o_Z143,(f,g,h,i,())⟩):=(hw _ _).trans (by kernel_rfl)
theorem Z143.ev(R:Run)(N:Nat)(a0 a1:Int)(a2:vK):qqq E R sg_Z143 pol_Z143 F_Z143 N [⟨yI,a0⟩,⟨yI,a1⟩,⟨yK,a2⟩]=(Z143.l0 R N N a2 (0:Int) (0:Int) (0:Int) (0:Int) a0 (List.length a2:Int) a1 ([]:List Int)):=by kernel_rfl
def Z134.l0(R:Run)(N n:Nat)(a b e f:Int):Option Dv:=R.w (some ⟨(.c (.d yI a)::(.c (.d yI b)::(zd 3 (.c (.d yI e)::(.c (.d yI f)::(zd 12 [])))))),(zo 21 [])⟩) fun st=>lC R pol_Z134 3 N [1,1,0,1,0,0] F_Z134 n st (kB R pol_Z134 0 (kS R pol_Z134 6 N [1,1,1] F_Z134 (qqM E sg_Z134 F_Z134)))
theorem Z134.l0_succ(R:Run)(hw:R.ok)(N n:Nat)(a b c d:Int):Z134.l0 R N (n+1) a b c d=(bif (decide (d>(0:Int))) then((chk (b != 0)).bind fun _=>(Z134.l0 R N n a b (Int.tmod (w64 (c*a)) b) (w64 (d-1)))) else some ⟨o_Z134,(c,())⟩):=(hw _ _).trans (by kernel_rfl)
theorem Z134.ev(R:Run)(N:Nat)(a0 a1:Int):qqq E R sg_Z134 pol_Z134 F_Z134 N [⟨yI,a0⟩,⟨yI,a1⟩]=(Z134.l0 R N N a0 a1 (1:Int) (w64 (a1-(2:Int)))):=by kernel_rfl
theorem Z136.ev(R:Run)(N:Nat)(a0 a1:Int):qqq E R sg_Z136 pol_Z136 F_Z136 N [⟨yI,a0⟩,⟨yI,a1⟩]=((chk (a1 != 0)).bind fun _=>((chk (a1 != 0)).bind fun _=>some ⟨o_Z136,((Int.tmod (w64 ((Int.tmod a0 a1)+a1)) a1),())⟩)):=by kernel_rfl
end
end VeT
