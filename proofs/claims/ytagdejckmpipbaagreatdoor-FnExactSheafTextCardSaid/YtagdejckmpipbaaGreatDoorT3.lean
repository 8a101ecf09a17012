import Derived.Test.YtagdejckmpipbaaGreatDoorV2
import Derived.Test.YtagdejckmpipbaaGreatDoorProg
import Derived.KernelRfl
set_option linter.unusedVariables false
set_option linter.unusedSimpArgs false
open Go Go.Proofs Ve
set_option maxRecDepth 100000
namespace VeT
abbrev yM : Ty := .cons (.int .i64) (.cons (.int .i64) (.cons (.int .i64) (.cons (.sl (.int .i64)) .nil)))
abbrev yI : Ty := .int .i64
abbrev yL : Ty := .sl yI
abbrev yK : Ty := .sl yL
abbrev yN : Ty := .sl (.st yM)
abbrev yS : Ty := .cons yK (.cons yI (.cons yL (.cons yN .nil)))
abbrev yR : Ty := .cons (.sl (.int .u8)) (.cons yI (.cons (.int .u64) .nil))
abbrev yC : Ty := .cons yK .nil
abbrev vM := Int × Int × Int × List Int × Unit
abbrev vK := List (List Int)
abbrev vN := List vM
abbrev vS := vK × Int × List Int × vN × Unit
noncomputable section
def bodyOf(f:Func):Code:=f.body.getD .skip
def zd:Nat→List Ve.V→List Ve.V
  | 0,t=>t
  | n+1,t=>V.dead::zd n t
def zo:Nat→List (Option Ve.Obj)→List (Option Ve.Obj)
  | 0,t=>t
  | n+1,t=>none::zo n t
abbrev n_Z41:Nat:=3
abbrev n_Z53:Nat:=6
abbrev n_Z83:Nat:=7
abbrev n_Z59:Nat:=8
abbrev n_Z9:Nat:=9
abbrev n_Z47:Nat:=10
abbrev n_Z48:Nat:=28
abbrev n_Z49:Nat:=29
abbrev n_Z52:Nat:=30
abbrev n_Z108:Nat:=31
abbrev n_Z112:Nat:=32
abbrev n_Z54:Nat:=33
abbrev n_Z55:Nat:=34
abbrev n_Z58:Nat:=35
abbrev n_Z14:Nat:=36
abbrev n_Z5:Nat:=37
abbrev n_Z6:Nat:=38
abbrev n_Z7:Nat:=39
abbrev n_Z114:Nat:=40
abbrev n_Z42:Nat:=41
abbrev n_Z43:Nat:=42
abbrev n_Z46:Nat:=43
abbrev n_Z21:Nat:=49
abbrev n_Z38:Nat:=61
abbrev n_Z104:Nat:=63
abbrev n_Z29:Nat:=65
abbrev n_Z97:Nat:=70
abbrev n_Z12:Nat:=71
abbrev n_Z40:Nat:=72
abbrev n_Z37:Nat:=73
abbrev n_Z23:Nat:=74
abbrev n_Z50:Nat:=79
abbrev n_Z51:Nat:=80
abbrev n_Z101:Nat:=81
abbrev n_Z84:Nat:=82
abbrev n_Z110:Nat:=83
abbrev n_Z106:Nat:=84
abbrev n_Z107:Nat:=85
abbrev n_Z109:Nat:=86
abbrev n_Z105:Nat:=87
abbrev n_Z90:Nat:=88
abbrev n_Z91:Nat:=89
abbrev n_Z56:Nat:=90
abbrev n_Z57:Nat:=91
abbrev n_Z10:Nat:=92
abbrev n_Z13:Nat:=93
abbrev n_Z19:Nat:=94
abbrev n_Z27:Nat:=95
abbrev n_Z25:Nat:=96
abbrev n_Z113:Nat:=97
abbrev n_Z66:Nat:=98
abbrev n_Z8:Nat:=99
abbrev n_Z33:Nat:=100
abbrev n_Z44:Nat:=104
abbrev n_Z45:Nat:=105
abbrev n_Z93:Nat:=111
abbrev n_Z36:Nat:=116
abbrev n_Z89:Nat:=129
abbrev n_Z35:Nat:=130
abbrev n_Z86:Nat:=131
abbrev n_Z102:Nat:=132
abbrev n_Z30:Nat:=133
abbrev n_Z72:Nat:=134
abbrev n_Z76:Nat:=136
abbrev n_Z94:Nat:=138
abbrev n_Z99:Nat:=140
abbrev n_Z96:Nat:=141
abbrev n_Z32:Nat:=142
abbrev n_Z17:Nat:=143
abbrev n_Z24:Nat:=144
abbrev n_Z26:Nat:=145
abbrev n_Z103:Nat:=150
abbrev n_Z95:Nat:=151
abbrev n_Z92:Nat:=152
abbrev n_Z111:Nat:=153
abbrev n_Z98:Nat:=154
abbrev n_Z15:Nat:=155
abbrev n_Z22:Nat:=156
abbrev n_Z64:Nat:=157
abbrev n_Z11:Nat:=158
abbrev n_Z20:Nat:=159
abbrev n_Z39:Nat:=160
abbrev n_Z87:Nat:=166
abbrev n_Z85:Nat:=188
abbrev n_Z82:Nat:=189
abbrev n_Z18:Nat:=191
abbrev n_Z28:Nat:=192
abbrev n_Z63:Nat:=193
abbrev n_Z60:Nat:=194
abbrev n_Z88:Nat:=198
abbrev n_Z100:Nat:=199
abbrev n_Z31:Nat:=200
abbrev n_Z16:Nat:=201
abbrev n_Z34:Nat:=202
abbrev n_Z2:Nat:=203
abbrev n_Z0:Nat:=204
abbrev n_Z62:Nat:=205
abbrev n_Z74:Nat:=206
abbrev n_Z73:Nat:=230
abbrev n_Z3:Nat:=233
abbrev n_Z1:Nat:=234
abbrev n_Z4:Nat:=263
abbrev F_Z41:Func:=Tryz.f3
abbrev F_Z53:Func:=Tryz.f6
abbrev F_Z83:Func:=Tryz.f7
abbrev F_Z59:Func:=Tryz.f8
abbrev F_Z9:Func:=Tryz.f9
abbrev F_Z47:Func:=Tryz.f10
abbrev F_Z48:Func:=Tryz.f28
abbrev F_Z49:Func:=Tryz.f29
abbrev F_Z52:Func:=Tryz.f30
abbrev F_Z108:Func:=Tryz.f31
abbrev F_Z112:Func:=Tryz.f32
abbrev F_Z54:Func:=Tryz.f33
abbrev F_Z55:Func:=Tryz.f34
abbrev F_Z58:Func:=Tryz.f35
abbrev F_Z14:Func:=Tryz.f36
abbrev F_Z5:Func:=Tryz.f37
abbrev F_Z6:Func:=Tryz.f38
abbrev F_Z7:Func:=Tryz.f39
abbrev F_Z114:Func:=Tryz.f40
abbrev F_Z42:Func:=Tryz.f41
abbrev F_Z43:Func:=Tryz.f42
abbrev F_Z46:Func:=Tryz.f43
abbrev F_Z21:Func:=Tryz.f49
abbrev F_Z38:Func:=Tryz.f61
abbrev F_Z104:Func:=Tryz.f63
abbrev F_Z29:Func:=Tryz.f65
abbrev F_Z97:Func:=Tryz.f70
abbrev F_Z12:Func:=Tryz.f71
abbrev F_Z40:Func:=Tryz.f72
abbrev F_Z37:Func:=Tryz.f73
abbrev F_Z23:Func:=Tryz.f74
abbrev F_Z50:Func:=Tryz.f79
abbrev F_Z51:Func:=Tryz.f80
abbrev F_Z101:Func:=Tryz.f81
abbrev F_Z84:Func:=Tryz.f82
abbrev F_Z110:Func:=Tryz.f83
abbrev F_Z106:Func:=Tryz.f84
abbrev F_Z107:Func:=Tryz.f85
abbrev F_Z109:Func:=Tryz.f86
abbrev F_Z105:Func:=Tryz.f87
abbrev F_Z90:Func:=Tryz.f88
abbrev F_Z91:Func:=Tryz.f89
abbrev F_Z56:Func:=Tryz.f90
abbrev F_Z57:Func:=Tryz.f91
abbrev F_Z10:Func:=Tryz.f92
abbrev F_Z13:Func:=Tryz.f93
abbrev F_Z19:Func:=Tryz.f94
abbrev F_Z27:Func:=Tryz.f95
abbrev F_Z25:Func:=Tryz.f96
abbrev F_Z113:Func:=Tryz.f97
abbrev F_Z66:Func:=Tryz.f98
abbrev F_Z8:Func:=Tryz.f99
abbrev F_Z33:Func:=Tryz.f100
abbrev F_Z44:Func:=Tryz.f104
abbrev F_Z45:Func:=Tryz.f105
abbrev F_Z93:Func:=Tryz.f111
abbrev F_Z36:Func:=Tryz.f116
abbrev F_Z89:Func:=Tryz.f129
abbrev F_Z35:Func:=Tryz.f130
abbrev F_Z86:Func:=Tryz.f131
abbrev F_Z102:Func:=Tryz.f132
abbrev F_Z30:Func:=Tryz.f133
abbrev F_Z72:Func:=Tryz.f134
abbrev F_Z76:Func:=Tryz.f136
abbrev F_Z94:Func:=Tryz.f138
abbrev F_Z99:Func:=Tryz.f140
abbrev F_Z96:Func:=Tryz.f141
abbrev F_Z32:Func:=Tryz.f142
abbrev F_Z17:Func:=Tryz.f143
abbrev F_Z24:Func:=Tryz.f144
abbrev F_Z26:Func:=Tryz.f145
abbrev F_Z103:Func:=Tryz.f150
abbrev F_Z95:Func:=Tryz.f151
abbrev F_Z92:Func:=Tryz.f152
abbrev F_Z111:Func:=Tryz.f153
abbrev F_Z98:Func:=Tryz.f154
abbrev F_Z15:Func:=Tryz.f155
abbrev F_Z22:Func:=Tryz.f156
abbrev F_Z64:Func:=Tryz.f157
abbrev F_Z11:Func:=Tryz.f158
abbrev F_Z20:Func:=Tryz.f159
abbrev F_Z39:Func:=Tryz.f160
abbrev F_Z87:Func:=Tryz.f166
abbrev F_Z85:Func:=Tryz.f188
abbrev F_Z82:Func:=Tryz.f189
abbrev F_Z18:Func:=Tryz.f191
abbrev F_Z28:Func:=Tryz.f192
abbrev F_Z63:Func:=Tryz.f193
abbrev F_Z60:Func:=Tryz.f194
abbrev F_Z88:Func:=Tryz.f198
abbrev F_Z100:Func:=Tryz.f199
abbrev F_Z31:Func:=Tryz.f200
abbrev F_Z16:Func:=Tryz.f201
abbrev F_Z34:Func:=Tryz.f202
abbrev F_Z2:Func:=Tryz.f203
abbrev F_Z0:Func:=Tryz.f204
abbrev F_Z62:Func:=Tryz.f205
abbrev F_Z74:Func:=Tryz.f206
abbrev F_Z73:Func:=Tryz.f230
abbrev F_Z3:Func:=Tryz.f233
abbrev F_Z1:Func:=Tryz.f234
abbrev F_Z4:Func:=Tryz.f263
abbrev o_Z41:Ty:=(.cons .bool .nil)
def sg_Z41:Sig:=⟨[(true,4)],[],o_Z41,[(false,1)],[],[.str]⟩
abbrev o_Z53:Ty:=(.cons yI .nil)
def sg_Z53:Sig:=⟨[(true,4),(false,1)],[],o_Z53,[(false,1)],[],[]⟩
abbrev o_Z83:Ty:=(.cons .str .nil)
def sg_Z83:Sig:=⟨[(true,4)],[],o_Z83,[(false,1)],[],[]⟩
abbrev o_Z59:Ty:=yS
def sg_Z59:Sig:=⟨[(true,4)],[],o_Z59,[(true,4)],[.deep,.imm,.deep,.deep],[]⟩
abbrev o_Z9:Ty:=(.cons .str .nil)
def sg_Z9:Sig:=⟨[(true,4)],[],o_Z9,[(false,1)],[],[.str]⟩
abbrev o_Z47:Ty:=(.cons .bool .nil)
def sg_Z47:Sig:=⟨[(true,4),(true,4)],[],o_Z47,[(false,1)],[],[]⟩
abbrev o_Z48:Ty:=(.cons yI .nil)
def sg_Z48:Sig:=⟨[(true,1),(false,1)],[],o_Z48,[(false,1)],[],[]⟩
abbrev o_Z49:Ty:=(.cons yI .nil)
def sg_Z49:Sig:=⟨[(false,1),(false,1)],[],o_Z49,[(false,1)],[],[]⟩
abbrev o_Z52:Ty:=(.cons yI .nil)
def sg_Z52:Sig:=⟨[(false,1),(false,1)],[],o_Z52,[(false,1)],[],[]⟩
abbrev o_Z108:Ty:=(.cons .bool .nil)
def sg_Z108:Sig:=⟨[(false,1)],[],o_Z108,[(false,1)],[],[(.ptr yS)]⟩
abbrev o_Z112:Ty:=(.cons .str .nil)
def sg_Z112:Sig:=⟨[(false,1)],[],o_Z112,[(false,1)],[],[(.ptr yS)]⟩
abbrev o_Z54:Ty:=yC
def sg_Z54:Sig:=⟨[(true,1)],[],o_Z54,[(true,1)],[.deep],[]⟩
abbrev o_Z55:Ty:=(.cons yL .nil)
def sg_Z55:Sig:=⟨[(false,1)],[],o_Z55,[(false,1)],[.deep],[]⟩
abbrev o_Z58:Ty:=(.cons yN .nil)
def sg_Z58:Sig:=⟨[(false,1)],[],o_Z58,[(false,1)],[.deep],[]⟩
abbrev o_Z14:Ty:=(.cons .bool .nil)
def sg_Z14:Sig:=⟨[(true,4)],[],o_Z14,[(false,1)],[],[]⟩
abbrev o_Z5:Ty:=(.cons .str .nil)
def sg_Z5:Sig:=⟨[(true,1)],[],o_Z5,[(false,1)],[],[.str]⟩
abbrev o_Z6:Ty:=(.cons .str .nil)
def sg_Z6:Sig:=⟨[(false,1)],[],o_Z6,[(false,1)],[],[]⟩
abbrev o_Z7:Ty:=(.cons .str .nil)
def sg_Z7:Sig:=⟨[(false,1)],[],o_Z7,[(false,1)],[],[.str]⟩
abbrev o_Z114:Ty:=(.cons .str .nil)
def sg_Z114:Sig:=⟨[(false,1),(false,1)],[],o_Z114,[(false,1)],[],[.str]⟩
abbrev o_Z42:Ty:=(.cons .bool .nil)
def sg_Z42:Sig:=⟨[(true,1),(true,1)],[],o_Z42,[(false,1)],[],[]⟩
abbrev o_Z43:Ty:=(.cons .bool .nil)
def sg_Z43:Sig:=⟨[(false,1),(false,1)],[],o_Z43,[(false,1)],[],[]⟩
abbrev o_Z46:Ty:=(.cons .bool .nil)
def sg_Z46:Sig:=⟨[(false,1),(false,1)],[],o_Z46,[(false,1)],[],[]⟩
abbrev o_Z21:Ty:=(.cons (.sl (.st (.cons yI (.cons yI (.cons yI .nil))))) .nil)
def sg_Z21:Sig:=⟨[(true,1)],[],o_Z21,[(false,1)],[.deep],[]⟩
abbrev o_Z38:Ty:=(.cons yI .nil)
def sg_Z38:Sig:=⟨[(true,4),(false,1)],[],o_Z38,[(false,1)],[],[]⟩
abbrev o_Z104:Ty:=(.cons yL .nil)
def sg_Z104:Sig:=⟨[(false,1),(false,1)],[],o_Z104,[(false,1)],[.deep],[(.ptr yC)]⟩
abbrev o_Z29:Ty:=(.cons .bool .nil)
def sg_Z29:Sig:=⟨[(false,1),(false,1)],[],o_Z29,[(false,1)],[],[]⟩
abbrev o_Z97:Ty:=(.cons yL .nil)
def sg_Z97:Sig:=⟨[(false,1),(false,1)],[],o_Z97,[(false,1)],[.deep],[(.ptr yC)]⟩
abbrev o_Z12:Ty:=(.cons .bool .nil)
def sg_Z12:Sig:=⟨[(true,4)],[],o_Z12,[(false,1)],[],[]⟩
abbrev o_Z40:Ty:=(.cons .bool .nil)
def sg_Z40:Sig:=⟨[(false,1),(false,1),(false,1)],[],o_Z40,[(false,1)],[],[]⟩
abbrev o_Z37:Ty:=(.cons yI .nil)
def sg_Z37:Sig:=⟨[(false,1)],[],o_Z37,[(false,1)],[],[]⟩
abbrev o_Z23:Ty:=(.cons yL .nil)
def sg_Z23:Sig:=⟨[(true,1),(false,1)],[],o_Z23,[(false,1)],[.deep],[]⟩
abbrev o_Z50:Ty:=(.cons yI .nil)
def sg_Z50:Sig:=⟨[(false,1),(false,1)],[],o_Z50,[(false,1)],[],[]⟩
abbrev o_Z51:Ty:=(.cons yI .nil)
def sg_Z51:Sig:=⟨[(true,4),(false,1)],[],o_Z51,[(false,1)],[],[]⟩
abbrev o_Z101:Ty:=(.cons .bool .nil)
def sg_Z101:Sig:=⟨[(false,1)],[],o_Z101,[(false,1)],[],[(.ptr yC)]⟩
abbrev o_Z84:Ty:=(.cons .bool .nil)
def sg_Z84:Sig:=⟨[(false,1)],[],o_Z84,[(false,1)],[],[]⟩
abbrev o_Z110:Ty:=(.cons .bool .nil)
def sg_Z110:Sig:=⟨[(false,1),(false,1)],[],o_Z110,[(false,1)],[],[(.ptr yC)]⟩
abbrev o_Z106:Ty:=(.cons yI .nil)
def sg_Z106:Sig:=⟨[(false,1)],[],o_Z106,[(false,1)],[],[(.ptr yC)]⟩
abbrev o_Z107:Ty:=(.cons .bool .nil)
def sg_Z107:Sig:=⟨[(false,1),(false,1),(false,1),(false,1)],[],o_Z107,[(false,1)],[],[(.ptr yS),.nil,.nil,(.ptr yM)]⟩
abbrev o_Z109:Ty:=(.cons yI .nil)
def sg_Z109:Sig:=⟨[(false,1),(false,1),(false,1)],[],o_Z109,[(false,1)],[],[(.ptr yC)]⟩
abbrev o_Z105:Ty:=(.cons .str .nil)
def sg_Z105:Sig:=⟨[(false,1)],[],o_Z105,[(false,1)],[],[(.ptr yC)]⟩
abbrev o_Z90:Ty:=(.cons .str .nil)
def sg_Z90:Sig:=⟨[(false,1)],[],o_Z90,[(false,1)],[],[]⟩
abbrev o_Z91:Ty:=(.cons .str .nil)
def sg_Z91:Sig:=⟨[(false,1)],[],o_Z91,[(false,1)],[],[]⟩
abbrev o_Z56:Ty:=yC
def sg_Z56:Sig:=⟨[(false,1)],[],o_Z56,[(false,1)],[.deep],[]⟩
abbrev o_Z57:Ty:=yM
def sg_Z57:Sig:=⟨[(true,4)],[],o_Z57,[(true,4)],[.imm,.imm,.imm,.deep],[]⟩
abbrev o_Z10:Ty:=(.cons .bool .nil)
def sg_Z10:Sig:=⟨[(true,1)],[],o_Z10,[(false,1)],[],[]⟩
abbrev o_Z13:Ty:=(.cons .bool .nil)
def sg_Z13:Sig:=⟨[(false,1)],[],o_Z13,[(false,1)],[],[]⟩
abbrev o_Z19:Ty:=(.cons .bool .nil)
def sg_Z19:Sig:=⟨[(true,1),(false,1)],[],o_Z19,[(false,1)],[],[]⟩
abbrev o_Z27:Ty:=(.cons .bool .nil)
def sg_Z27:Sig:=⟨[(true,4),(false,1),(false,1),(false,1)],[],o_Z27,[(false,1)],[],[]⟩
abbrev o_Z25:Ty:=(.cons yL .nil)
def sg_Z25:Sig:=⟨[(true,1)],[],o_Z25,[(false,1)],[.deep],[]⟩
abbrev o_Z113:Ty:=(.cons .str .nil)
def sg_Z113:Sig:=⟨[(false,1),(false,1)],[],o_Z113,[(false,1)],[],[]⟩
abbrev o_Z66:Ty:=(.cons .bool .nil)
def sg_Z66:Sig:=⟨[(false,1),(false,1)],[],o_Z66,[(false,1)],[],[]⟩
abbrev o_Z8:Ty:=(.cons .bool .nil)
def sg_Z8:Sig:=⟨[(false,1)],[],o_Z8,[(false,1)],[],[]⟩
abbrev o_Z33:Ty:=(.cons .bool .nil)
def sg_Z33:Sig:=⟨[(false,1)],[],o_Z33,[(false,1)],[],[]⟩
abbrev o_Z44:Ty:=(.cons .bool .nil)
def sg_Z44:Sig:=⟨[(false,1),(false,1)],[],o_Z44,[(false,1)],[],[]⟩
abbrev o_Z45:Ty:=(.cons .bool .nil)
def sg_Z45:Sig:=⟨[(true,4),(true,4)],[],o_Z45,[(false,1)],[],[]⟩
abbrev o_Z93:Ty:=(.cons .bool .nil)
def sg_Z93:Sig:=⟨[(false,1),(false,1),(false,1)],[],o_Z93,[(false,1)],[],[]⟩
abbrev o_Z36:Ty:=(.cons yI .nil)
def sg_Z36:Sig:=⟨[(false,1)],[],o_Z36,[(false,1)],[],[]⟩
abbrev o_Z89:Ty:=(.cons .bool .nil)
def sg_Z89:Sig:=⟨[(false,1),(false,1)],[],o_Z89,[(false,1)],[],[]⟩
abbrev o_Z35:Ty:=(.cons yL .nil)
def sg_Z35:Sig:=⟨[(true,1),(false,1)],[],o_Z35,[(false,1)],[.deep],[]⟩
abbrev o_Z86:Ty:=(.cons .bool .nil)
def sg_Z86:Sig:=⟨[(false,1),(false,1),(false,1)],[],o_Z86,[(false,1)],[],[]⟩
abbrev o_Z102:Ty:=(.cons .bool .nil)
def sg_Z102:Sig:=⟨[(false,1),(false,1)],[],o_Z102,[(false,1)],[],[]⟩
abbrev o_Z30:Ty:=(.cons .bool .nil)
def sg_Z30:Sig:=⟨[(false,1),(false,1)],[],o_Z30,[(false,1)],[],[.nil,(.ptr (.cons yL .nil))]⟩
abbrev o_Z72:Ty:=(.cons .bool .nil)
def sg_Z72:Sig:=⟨[(false,1),(false,1)],[],o_Z72,[(false,1)],[],[]⟩
abbrev o_Z76:Ty:=(.cons yI .nil)
def sg_Z76:Sig:=⟨[(false,1),(false,1)],[],o_Z76,[(false,1)],[],[]⟩
abbrev o_Z94:Ty:=(.cons .bool .nil)
def sg_Z94:Sig:=⟨[(false,1)],[],o_Z94,[(false,1)],[],[(.ptr yM)]⟩
abbrev o_Z99:Ty:=(.cons yI .nil)
def sg_Z99:Sig:=⟨[(false,1),(false,1)],[],o_Z99,[(false,1)],[],[(.ptr yC)]⟩
abbrev o_Z96:Ty:=(.cons yL .nil)
def sg_Z96:Sig:=⟨[(false,1),(false,1)],[],o_Z96,[(false,1)],[.deep],[]⟩
abbrev o_Z32:Ty:=(.cons .bool .nil)
def sg_Z32:Sig:=⟨[(false,1)],[],o_Z32,[(false,1)],[],[]⟩
abbrev o_Z17:Ty:=(.cons .bool .nil)
def sg_Z17:Sig:=⟨[(false,1),(false,1)],[],o_Z17,[(false,1)],[],[]⟩
abbrev o_Z24:Ty:=yC
def sg_Z24:Sig:=⟨[(false,1)],[],o_Z24,[(false,1)],[.deep],[]⟩
abbrev o_Z26:Ty:=(.cons yI .nil)
def sg_Z26:Sig:=⟨[(true,1),(false,1)],[],o_Z26,[(false,1)],[],[]⟩
abbrev o_Z103:Ty:=(.cons .bool .nil)
def sg_Z103:Sig:=⟨[(false,1)],[],o_Z103,[(false,1)],[],[]⟩
abbrev o_Z95:Ty:=(.cons .bool .nil)
def sg_Z95:Sig:=⟨[(false,1),(false,1)],[],o_Z95,[(false,1)],[],[]⟩
abbrev o_Z92:Ty:=(.cons .bool .nil)
def sg_Z92:Sig:=⟨[(false,1)],[],o_Z92,[(false,1)],[],[]⟩
abbrev o_Z111:Ty:=(.cons yI .nil)
def sg_Z111:Sig:=⟨[(false,1),(false,1),(false,1)],[],o_Z111,[(false,1)],[],[(.ptr yC)]⟩
abbrev o_Z98:Ty:=(.cons yL .nil)
def sg_Z98:Sig:=⟨[(false,1)],[],o_Z98,[(false,1)],[.deep],[(.ptr yC)]⟩
abbrev o_Z15:Ty:=(.cons .bool .nil)
def sg_Z15:Sig:=⟨[(false,1)],[],o_Z15,[(false,1)],[],[]⟩
abbrev o_Z22:Ty:=(.cons yI .nil)
def sg_Z22:Sig:=⟨[(false,1),(false,1)],[],o_Z22,[(false,1)],[],[]⟩
abbrev o_Z64:Ty:=(.cons .bool .nil)
def sg_Z64:Sig:=⟨[(false,1),(false,1)],[],o_Z64,[(false,1)],[],[]⟩
abbrev o_Z11:Ty:=(.cons .bool .nil)
def sg_Z11:Sig:=⟨[(false,1),(false,1),(false,1)],[],o_Z11,[(false,1)],[],[.nil,(.ptr yC),(.ptr (.cons yI .nil))]⟩
abbrev o_Z20:Ty:=(.cons .bool .nil)
def sg_Z20:Sig:=⟨[(false,1)],[],o_Z20,[(false,1)],[],[]⟩
abbrev o_Z39:Ty:=(.cons yL .nil)
def sg_Z39:Sig:=⟨[(true,1),(false,1)],[],o_Z39,[(false,1)],[.deep],[]⟩
abbrev o_Z87:Ty:=(.cons yL .nil)
def sg_Z87:Sig:=⟨[(false,1)],[],o_Z87,[(false,1)],[.deep],[]⟩
abbrev o_Z85:Ty:=(.cons .bool .nil)
def sg_Z85:Sig:=⟨[(false,1),(false,1)],[],o_Z85,[(false,1)],[],[]⟩
abbrev o_Z82:Ty:=(.cons yI .nil)
def sg_Z82:Sig:=⟨[(false,1),(false,1)],[],o_Z82,[(false,1)],[],[]⟩
abbrev o_Z18:Ty:=(.cons .bool .nil)
def sg_Z18:Sig:=⟨[(false,1),(false,1)],[],o_Z18,[(false,1)],[],[.nil,(.ptr (.cons yI .nil))]⟩
abbrev o_Z28:Ty:=(.cons .bool .nil)
def sg_Z28:Sig:=⟨[(false,1),(false,1)],[],o_Z28,[(false,1)],[],[]⟩
abbrev o_Z63:Ty:=(.cons yL .nil)
def sg_Z63:Sig:=⟨[(false,1)],[],o_Z63,[(false,1)],[.deep],[]⟩
abbrev o_Z60:Ty:=(.cons yI (.cons .bool .nil))
def sg_Z60:Sig:=⟨[(false,1),(false,1),(false,1)],[],o_Z60,[(false,1),(false,1)],[],[]⟩
abbrev o_Z88:Ty:=(.cons .bool .nil)
def sg_Z88:Sig:=⟨[(false,1),(false,1),(false,1)],[],o_Z88,[(false,1)],[],[]⟩
abbrev o_Z100:Ty:=(.cons yL .nil)
def sg_Z100:Sig:=⟨[(false,1),(false,1)],[],o_Z100,[(false,1)],[.deep],[(.ptr yC)]⟩
abbrev o_Z31:Ty:=(.cons .bool .nil)
def sg_Z31:Sig:=⟨[(false,1)],[],o_Z31,[(false,1)],[],[]⟩
abbrev o_Z16:Ty:=(.cons .bool .nil)
def sg_Z16:Sig:=⟨[(false,1)],[],o_Z16,[(false,1)],[],[]⟩
abbrev o_Z34:Ty:=(.cons .bool .nil)
def sg_Z34:Sig:=⟨[(false,1)],[],o_Z34,[(false,1)],[],[]⟩
abbrev o_Z2:Ty:=(.cons yI .nil)
def sg_Z2:Sig:=⟨[(false,1)],[],o_Z2,[(false,1)],[],[]⟩
abbrev o_Z0:Ty:=(.cons yI .nil)
def sg_Z0:Sig:=⟨[(false,1),(false,1)],[],o_Z0,[(false,1)],[],[]⟩
abbrev o_Z62:Ty:=(.cons yI .nil)
def sg_Z62:Sig:=⟨[(false,1),(false,1)],[],o_Z62,[(false,1)],[],[]⟩
abbrev o_Z74:Ty:=(.cons yI .nil)
def sg_Z74:Sig:=⟨[(false,1),(false,1)],[],o_Z74,[(false,1)],[],[]⟩
abbrev o_Z73:Ty:=(.cons yL .nil)
def sg_Z73:Sig:=⟨[(false,1),(false,1)],[.take true,.imm],o_Z73,[(false,1)],[.deep],[]⟩
abbrev o_Z3:Ty:=(.cons .bool .nil)
def sg_Z3:Sig:=⟨[(false,1)],[],o_Z3,[(false,1)],[],[]⟩
abbrev o_Z1:Ty:=(.cons yI .nil)
def sg_Z1:Sig:=⟨[(false,1),(false,1)],[],o_Z1,[(false,1)],[],[]⟩
abbrev o_Z4:Ty:=(.cons .bool .nil)
def sg_Z4:Sig:=⟨[(false,1)],[],o_Z4,[(false,1)],[],[]⟩
def pol_Z41:Pol:=⟨31,[],[],[],[],[(0,fun _=>none)]⟩
def pol_Z53:Pol:=⟨29,[],[],[],[],[]⟩
def pol_Z83:Pol:=⟨10,[],[],[],[],[]⟩
def pol_Z59:Pol:=⟨27,[(6,[some 24]),(13,[some 25]),(17,[some 26])],[],[],[],[]⟩
def pol_Z9:Pol:=⟨39,[],[(5,⟨[3,20,21,22],[18],[],[],[],[],[]⟩)],[],[],[(0,fun _=>none)]⟩
def pol_Z47:Pol:=⟨36,[],[],[],[],[]⟩
def pol_Z48:Pol:=⟨14,[],[],[],[],[]⟩
def pol_Z49:Pol:=⟨14,[],[],[],[],[]⟩
def pol_Z52:Pol:=⟨29,[],[(5,⟨[0,1,5],[],[],[],[],[],[]⟩)],[],[],[]⟩
def pol_Z108:Pol:=⟨93,[],[(4,⟨[0,3],[],[],[],[],[],[]⟩),(7,⟨[0,3,4],[],[],[],[],[],[]⟩)],[],[(1000040,⟨[0,40],[],[],[],[],[],[]⟩),(1000073,⟨[0,3,4,73],[],[],[],[],[],[]⟩)],[]⟩
def pol_Z112:Pol:=⟨46,[],[(3,⟨[0,3,4],[],[],[],[],[],[]⟩)],[],[],[]⟩
def pol_Z54:Pol:=⟨11,[(6,[some 10])],[],[],[],[]⟩
def pol_Z55:Pol:=⟨23,[],[(3,⟨[0,3,4],[7],[],[],[],[],[]⟩)],[],[],[]⟩
def pol_Z58:Pol:=⟨25,[(20,[none,none,none,some 24])],[(3,⟨[0,3,4],[7],[],[],[],[],[]⟩)],[],[],[]⟩
def pol_Z14:Pol:=⟨73,[],[(5,⟨[1,3,27,28,29],[1],[],[],[],[],[]⟩)],[],[(1000023,⟨[1,23],[1],[],[],[],[],[]⟩),(1000061,⟨[1,3,27,28,29,61],[1],[],[],[],[],[]⟩)],[]⟩
def pol_Z5:Pol:=⟨32,[],[(5,⟨[1,3,10,11,12],[1,24],[(3,24,.str,true)],[],[],[],[]⟩)],[],[],[(0,fun _=>none)]⟩
def pol_Z6:Pol:=⟨6,[],[],[],[],[]⟩
def pol_Z7:Pol:=⟨31,[],[(7,⟨[3,16,17,18],[26],[(3,26,.str,true)],[],[],[],[]⟩)],[],[(1000012,⟨[0,12],[],[],[],[],[],[]⟩)],[(0,fun _=>none)]⟩
def pol_Z42:Pol:=⟨13,[],[],[],[],[]⟩
def pol_Z43:Pol:=⟨28,[],[(4,⟨[0,1,5],[],[],[],[],[],[]⟩)],[],[],[]⟩
def pol_Z46:Pol:=⟨29,[],[(4,⟨[0,1,5],[],[],[],[],[],[]⟩)],[],[],[]⟩
def pol_Z21:Pol:=⟨33,[],[(3,⟨[1,3,9,10],[1,28],[(3,28,(.st (.cons yI (.cons yI (.cons yI .nil)))),true)],[],[],[],[]⟩),(6,⟨[1,3,4,9,10,15,16,17],[1,28],[(3,28,(.st (.cons yI (.cons yI (.cons yI .nil)))),true)],[],[],[],[]⟩)],[],[],[]⟩
def pol_Z38:Pol:=⟨31,[],[(3,⟨[2,5,11,12,13],[2],[],[],[],[],[]⟩)],[],[],[]⟩
def pol_Z104:Pol:=⟨33,[],[(3,⟨[0,1,5,6],[7],[],[],[],[],[]⟩)],[],[],[]⟩
def pol_Z29:Pol:=⟨11,[],[],[],[],[]⟩
def pol_Z97:Pol:=⟨38,[],[(4,⟨[0,5,6,7],[15],[],[],[],[],[]⟩)],[],[(1000024,⟨[0,5,6,7,24],[15],[],[],[],[],[]⟩)],[]⟩
def pol_Z12:Pol:=⟨38,[],[],[],[],[]⟩
def pol_Z40:Pol:=⟨18,[],[],[],[],[]⟩
def pol_Z37:Pol:=⟨6,[],[],[],[],[]⟩
def pol_Z23:Pol:=⟨29,[],[(3,⟨[2,5,13,14,15],[2,24],[(5,24,yI,true)],[],[],[],[]⟩)],[],[],[]⟩
def pol_Z50:Pol:=⟨29,[],[(5,⟨[0,1,5],[],[],[],[],[],[]⟩)],[],[],[]⟩
def pol_Z51:Pol:=⟨17,[],[],[],[],[]⟩
def pol_Z101:Pol:=⟨66,[],[(4,⟨[0,3],[],[],[],[],[],[]⟩),(10,⟨[0,3,4,5],[],[],[],[],[],[]⟩)],[],[(1000047,⟨[0,3,4,47],[],[],[],[],[],[]⟩),(1000056,⟨[0,3,4,5,56],[],[],[],[],[],[]⟩)],[]⟩
def pol_Z84:Pol:=⟨6,[],[],[],[],[]⟩
def pol_Z110:Pol:=⟨25,[],[(4,⟨[0,1,5],[],[],[],[],[],[]⟩)],[],[],[]⟩
def pol_Z106:Pol:=⟨11,[],[],[],[],[]⟩
def pol_Z107:Pol:=⟨63,[],[],[],[],[]⟩
def pol_Z109:Pol:=⟨39,[],[(3,⟨[0,1,2,7,8],[],[],[],[],[],[]⟩)],[],[],[]⟩
def pol_Z105:Pol:=⟨35,[],[(4,⟨[0,3,4,5],[],[],[],[],[],[]⟩)],[],[(8,⟨[0,3,4,5],[],[],[],[],[],[]⟩)],[]⟩
def pol_Z90:Pol:=⟨51,[],[(5,⟨[0,3,4],[10],[],[],[],[],[]⟩),(15,⟨[3,6,7],[10,33],[],[],[],[],[]⟩)],[],[(10,⟨[0,3,4,5],[10],[],[],[],[],[]⟩),(13,⟨[3],[10],[],[],[],[],[]⟩)],[]⟩
def pol_Z91:Pol:=⟨27,[],[(5,⟨[0,3,4],[],[],[],[],[],[]⟩)],[],[(9,⟨[0,3,4],[],[],[],[],[],[]⟩)],[]⟩
def pol_Z56:Pol:=⟨25,[(20,[some 24])],[(3,⟨[0,3,4],[7],[],[],[],[],[]⟩)],[],[],[]⟩
def pol_Z57:Pol:=⟨23,[(15,[some 22])],[],[],[],[]⟩
def pol_Z10:Pol:=⟨41,[],[(2,⟨[1,6,7,8],[1],[],[],[1],[],[]⟩)],[],[(1000030,⟨[1,3,4,6,7,8,30],[1,3],[],[],[],[],[]⟩)],[]⟩
def pol_Z13:Pol:=⟨19,[],[(4,⟨[0,3],[],[],[],[],[],[]⟩)],[],[],[]⟩
def pol_Z19:Pol:=⟨28,[],[(4,⟨[1,2,16],[2],[],[],[],[],[]⟩)],[],[(1000015,⟨[1,2,15],[2],[],[],[],[],[]⟩)],[]⟩
def pol_Z27:Pol:=⟨36,[],[],[],[],[]⟩
def pol_Z25:Pol:=⟨23,[],[(3,⟨[1,3,7,8],[1,19],[(3,19,yI,true)],[],[],[],[]⟩)],[],[],[]⟩
def pol_Z66:Pol:=⟨11,[],[],[],[],[]⟩
def pol_Z8:Pol:=⟨7,[],[],[],[],[]⟩
def pol_Z33:Pol:=⟨6,[],[],[],[],[]⟩
def pol_Z44:Pol:=⟨29,[],[(4,⟨[0,1,5],[],[],[],[],[],[]⟩)],[],[],[]⟩
def pol_Z45:Pol:=⟨34,[],[],[],[],[]⟩
def pol_Z93:Pol:=⟨29,[],[(2,⟨[0,1,2,7],[],[],[],[],[],[]⟩)],[],[],[]⟩
def pol_Z36:Pol:=⟨6,[],[],[],[],[]⟩
def pol_Z89:Pol:=⟨28,[],[(4,⟨[0,1,5],[],[],[],[],[],[]⟩)],[],[],[]⟩
def pol_Z35:Pol:=⟨29,[],[(3,⟨[1,5,9,10,11],[24],[(5,24,yI,true)],[],[],[],[]⟩)],[],[],[]⟩
def pol_Z86:Pol:=⟨18,[],[],[],[],[]⟩
def pol_Z102:Pol:=⟨21,[],[(2,⟨[0,1,5],[],[],[],[],[],[]⟩)],[],[],[]⟩
def pol_Z30:Pol:=⟨10,[],[],[],[],[]⟩
def pol_Z72:Pol:=⟨11,[],[],[],[],[]⟩
def pol_Z76:Pol:=⟨21,[],[(2,⟨[0,1,7,8],[],[],[],[],[],[]⟩)],[],[],[]⟩
def pol_Z94:Pol:=⟨43,[],[],[],[],[]⟩
def pol_Z99:Pol:=⟨27,[],[(2,⟨[0,1,5],[],[],[],[],[],[]⟩)],[],[],[]⟩
def pol_Z96:Pol:=⟨19,[(9,[some 18])],[],[],[],[]⟩
def pol_Z32:Pol:=⟨6,[],[],[],[],[]⟩
def pol_Z17:Pol:=⟨11,[],[],[],[],[]⟩
def pol_Z24:Pol:=⟨29,[(22,[some 28])],[(3,⟨[0,3,6,7],[24],[(3,24,yL,true)],[],[],[],[]⟩)],[],[],[]⟩
def pol_Z26:Pol:=⟨19,[],[],[],[],[]⟩
def pol_Z103:Pol:=⟨11,[],[],[],[],[]⟩
def pol_Z95:Pol:=⟨42,[],[(4,⟨[0,1,5],[],[],[],[],[],[]⟩)],[],[],[]⟩
def pol_Z92:Pol:=⟨19,[],[(4,⟨[0,3],[],[],[],[],[],[]⟩)],[],[],[]⟩
def pol_Z111:Pol:=⟨32,[],[(4,⟨[1,7,8,9],[],[],[],[],[],[]⟩)],[],[],[]⟩
def pol_Z98:Pol:=⟨32,[],[(3,⟨[0,3,4],[5],[],[],[],[],[]⟩)],[],[],[]⟩
def pol_Z15:Pol:=⟨21,[],[],[],[],[]⟩
def pol_Z22:Pol:=⟨17,[],[],[],[],[]⟩
def pol_Z64:Pol:=⟨11,[],[],[],[],[]⟩
def pol_Z11:Pol:=⟨16,[],[],[],[],[]⟩
def pol_Z20:Pol:=⟨7,[],[],[],[],[]⟩
def pol_Z39:Pol:=⟨31,[],[(3,⟨[1,2,5,9,10,11],[2,26],[(5,26,yI,true)],[],[],[],[]⟩)],[],[],[]⟩
def pol_Z87:Pol:=⟨7,[],[],[],[],[]⟩
def pol_Z85:Pol:=⟨20,[],[(2,⟨[0,1,5],[],[],[],[],[],[]⟩)],[],[],[]⟩
def pol_Z82:Pol:=⟨21,[],[(2,⟨[0,1,7,8],[],[],[],[],[],[]⟩)],[],[],[]⟩
def pol_Z18:Pol:=⟨10,[],[],[],[],[]⟩
def pol_Z28:Pol:=⟨11,[],[],[],[],[]⟩
def pol_Z63:Pol:=⟨38,[(24,[some 37])],[(3,⟨[0,3,9,10,11],[],[],[],[],[],[]⟩),(11,⟨[6,25,26,27],[37],[],[],[],[],[]⟩)],[],[],[]⟩
def pol_Z60:Pol:=⟨52,[],[(3,⟨[0,1,2,8,9,10],[],[],[],[],[],[]⟩)],[],[],[]⟩
def pol_Z88:Pol:=⟨41,[],[(2,⟨[0,1,2,7],[],[],[],[],[],[]⟩)],[],[(1000037,⟨[0,1,2,7,37],[],[],[],[],[],[]⟩)],[]⟩
def pol_Z100:Pol:=⟨35,[],[(3,⟨[0,1,5,6],[7],[],[],[],[],[]⟩)],[],[],[]⟩
def pol_Z31:Pol:=⟨21,[],[(2,⟨[0,3],[],[],[],[],[],[]⟩)],[],[],[]⟩
def pol_Z16:Pol:=⟨7,[],[],[],[],[]⟩
def pol_Z34:Pol:=⟨6,[],[],[],[],[]⟩
def pol_Z2:Pol:=⟨19,[],[(3,⟨[3,6,7,8],[],[],[],[],[],[]⟩)],[],[],[]⟩
def pol_Z0:Pol:=⟨22,[],[],[],[],[]⟩
def pol_Z62:Pol:=⟨38,[],[(2,⟨[0,1,9,10,11],[],[],[],[],[],[]⟩)],[],[],[]⟩
def pol_Z74:Pol:=⟨21,[],[(2,⟨[0,1,7,8],[],[],[],[],[],[]⟩)],[],[],[]⟩
def pol_Z3:Pol:=⟨7,[],[],[],[],[]⟩
def pol_Z1:Pol:=⟨22,[],[],[],[],[]⟩
def pol_Z4:Pol:=⟨7,[],[],[],[],[]⟩
def sigL:List (Option Sig):=[none,none,none,some sg_Z41,none,none,some sg_Z53,some sg_Z83,some sg_Z59,some sg_Z9,some sg_Z47,none,none,none,none,none,none,none,none,none,none,none,none,none,none,none,none,none,some sg_Z48,some sg_Z49,some sg_Z52,some sg_Z108,some sg_Z112,some sg_Z54,some sg_Z55,some sg_Z58,some sg_Z14,some sg_Z5,some sg_Z6,some sg_Z7,some sg_Z114,some sg_Z42,some sg_Z43,some sg_Z46,none,none,none,none,none,some sg_Z21,none,none,none,none,none,none,none,none,none,none,none,some sg_Z38,none,some sg_Z104,none,some sg_Z29,none,none,none,none,some sg_Z97,some sg_Z12,some sg_Z40,some sg_Z37,some sg_Z23,none,none,none,none,some sg_Z50,some sg_Z51,some sg_Z101,some sg_Z84,some sg_Z110,some sg_Z106,some sg_Z107,some sg_Z109,some sg_Z105,some sg_Z90,some sg_Z91,some sg_Z56,some sg_Z57,some sg_Z10,some sg_Z13,some sg_Z19,some sg_Z27,some sg_Z25,some sg_Z113,some sg_Z66,some sg_Z8,some sg_Z33,none,none,none,some sg_Z44,some sg_Z45,none,none,none,none,none,some sg_Z93,none,none,none,none,some sg_Z36,none,none,none,none,none,none,none,none,none,none,none,none,some sg_Z89,some sg_Z35,some sg_Z86,some sg_Z102,some sg_Z30,some sg_Z72,none,some sg_Z76,none,some sg_Z94,none,some sg_Z99,some sg_Z96,some sg_Z32,some sg_Z17,some sg_Z24,some sg_Z26,none,none,none,none,some sg_Z103,some sg_Z95,some sg_Z92,some sg_Z111,some sg_Z98,some sg_Z15,some sg_Z22,some sg_Z64,some sg_Z11,some sg_Z20,some sg_Z39,none,none,none,none,none,some sg_Z87,none,none,none,none,none,none,none,none,none,none,none,none,none,none,none,none,none,none,none,none,none,some sg_Z85,some sg_Z82,none,some sg_Z18,some sg_Z28,some sg_Z63,some sg_Z60,none,none,none,some sg_Z88,some sg_Z100,some sg_Z31,some sg_Z16,some sg_Z34,some sg_Z2,some sg_Z0,some sg_Z62,some sg_Z74,none,none,none,none,none,none,none,none,none,none,none,none,none,none,none,none,none,none,none,none,none,none,none,some sg_Z73,none,none,some sg_Z3,some sg_Z1,none,none,none,none,none,none,none,none,none,none,none,none,none,none,none,none,none,none,none,none,none,none,none,none,none,none,none,none,some sg_Z4,none,none,none,none,none,none,none,none,none,none,none,none,none,none,none,none,none,none,none,none,none,none,none,none,none,none,none,none,none,none,none,none,none,none,none,none,none,none,none,none,none]
def fnL:List (Option (Func×Pol)):=[none,none,none,some (F_Z41,pol_Z41),none,none,some (F_Z53,pol_Z53),some (F_Z83,pol_Z83),some (F_Z59,pol_Z59),some (F_Z9,pol_Z9),some (F_Z47,pol_Z47),none,none,none,none,none,none,none,none,none,none,none,none,none,none,none,none,none,some (F_Z48,pol_Z48),some (F_Z49,pol_Z49),some (F_Z52,pol_Z52),some (F_Z108,pol_Z108),some (F_Z112,pol_Z112),some (F_Z54,pol_Z54),some (F_Z55,pol_Z55),some (F_Z58,pol_Z58),some (F_Z14,pol_Z14),some (F_Z5,pol_Z5),some (F_Z6,pol_Z6),some (F_Z7,pol_Z7),none,some (F_Z42,pol_Z42),some (F_Z43,pol_Z43),some (F_Z46,pol_Z46),none,none,none,none,none,some (F_Z21,pol_Z21),none,none,none,none,none,none,none,none,none,none,none,some (F_Z38,pol_Z38),none,some (F_Z104,pol_Z104),none,some (F_Z29,pol_Z29),none,none,none,none,some (F_Z97,pol_Z97),some (F_Z12,pol_Z12),some (F_Z40,pol_Z40),some (F_Z37,pol_Z37),some (F_Z23,pol_Z23),none,none,none,none,some (F_Z50,pol_Z50),some (F_Z51,pol_Z51),some (F_Z101,pol_Z101),some (F_Z84,pol_Z84),some (F_Z110,pol_Z110),some (F_Z106,pol_Z106),some (F_Z107,pol_Z107),some (F_Z109,pol_Z109),some (F_Z105,pol_Z105),some (F_Z90,pol_Z90),some (F_Z91,pol_Z91),some (F_Z56,pol_Z56),some (F_Z57,pol_Z57),some (F_Z10,pol_Z10),some (F_Z13,pol_Z13),some (F_Z19,pol_Z19),some (F_Z27,pol_Z27),some (F_Z25,pol_Z25),none,some (F_Z66,pol_Z66),some (F_Z8,pol_Z8),some (F_Z33,pol_Z33),none,none,none,some (F_Z44,pol_Z44),some (F_Z45,pol_Z45),none,none,none,none,none,some (F_Z93,pol_Z93),none,none,none,none,some (F_Z36,pol_Z36),none,none,none,none,none,none,none,none,none,none,none,none,some (F_Z89,pol_Z89),some (F_Z35,pol_Z35),some (F_Z86,pol_Z86),some (F_Z102,pol_Z102),some (F_Z30,pol_Z30),some (F_Z72,pol_Z72),none,some (F_Z76,pol_Z76),none,some (F_Z94,pol_Z94),none,some (F_Z99,pol_Z99),some (F_Z96,pol_Z96),some (F_Z32,pol_Z32),some (F_Z17,pol_Z17),some (F_Z24,pol_Z24),some (F_Z26,pol_Z26),none,none,none,none,some (F_Z103,pol_Z103),some (F_Z95,pol_Z95),some (F_Z92,pol_Z92),some (F_Z111,pol_Z111),some (F_Z98,pol_Z98),some (F_Z15,pol_Z15),some (F_Z22,pol_Z22),some (F_Z64,pol_Z64),some (F_Z11,pol_Z11),some (F_Z20,pol_Z20),some (F_Z39,pol_Z39),none,none,none,none,none,some (F_Z87,pol_Z87),none,none,none,none,none,none,none,none,none,none,none,none,none,none,none,none,none,none,none,none,none,some (F_Z85,pol_Z85),some (F_Z82,pol_Z82),none,some (F_Z18,pol_Z18),some (F_Z28,pol_Z28),some (F_Z63,pol_Z63),some (F_Z60,pol_Z60),none,none,none,some (F_Z88,pol_Z88),some (F_Z100,pol_Z100),some (F_Z31,pol_Z31),some (F_Z16,pol_Z16),some (F_Z34,pol_Z34),some (F_Z2,pol_Z2),some (F_Z0,pol_Z0),some (F_Z62,pol_Z62),some (F_Z74,pol_Z74),none,none,none,none,none,none,none,none,none,none,none,none,none,none,none,none,none,none,none,none,none,none,none,none,none,none,some (F_Z3,pol_Z3),some (F_Z1,pol_Z1),none,none,none,none,none,none,none,none,none,none,none,none,none,none,none,none,none,none,none,none,none,none,none,none,none,none,none,none,some (F_Z4,pol_Z4),none,none,none,none,none,none,none,none,none,none,none,none,none,none,none,none,none,none,none,none,none,none,none,none,none,none,none,none,none,none,none,none,none,none,none,none,none,none,none,none,none]
def primL:List (Option (Run→List Dv→Option Dv)):=[none,none,none,none,none,none,none,none,none,none,none,none,none,none,none,none,none,none,none,none,none,none,none,none,none,none,none,none,none,none,none,none,none,none,none,none,none,none,none,none,some qjl,none,none,none,none,none,none,none,none,none,none,none,none,none,none,none,none,none,none,none,none,none,none,none,none,none,none,none,none,none,none,none,none,none,none,none,none,none,none,none,none,none,none,none,none,none,none,none,none,none,none,none,none,none,none,none,none,some qlj,none,none,none,none,none,none,none,none,none,none,none,none,none,none,none,none,none,none,none,none,none,none,none,none,none,none,none,none,none,none,none,none,none,none,none,none,none,none,none,none,none,none,none,none,none,none,none,none,none,none,none,none,none,none,none,none,none,none,none,none,none,none,none,none,none,none,none,none,none,none,none,none,none,none,none,none,none,none,none,none,none,none,none,none,none,none,none,none,none,none,none,none,none,none,none,none,none,none,none,none,none,none,none,none,none,none,none,none,none,none,none,none,none,none,none,none,none,none,none,none,none,none,none,none,none,none,none,none,none,none,none,none,some (qi5 yI),none,none,none,none,none,none,none,none,none,none,none,none,none,none,none,none,none,none,none,none,none,none,none,none,none,none,none,none,none,none,none,none,none,none,none,none,none,none,none,none,none,none,none,none,none,none,none,none,none,none,none,none,none,none,none,none,none,none,none,none,none,none,none,none,none,none,none,none,none,none,none,none,none,none]
def gv(s:String):Nat:=(Tryz.prog.globalNamed s).getD 0
def gsL:Gls := [(gv "internal/strconv.uint64pow10",fun cs => cs = (Go.Lib.pow10Tab.map fun z => Value.int .u64 z).toArray)]
def E:Env:={ P:=Tryz.prog,fn:=fun f=>fnL.getD f none,prim:=fun f=>primL.getD f none,sig:=fun f=>sigL.getD f none,gs:=gsL }
theorem sig_laws_FnExactSheafText_eq:E.sig n_Z41=some sg_Z41:=rfl
abbrev RT(f:Nat)(s:Sig)(q:Pol)(F:Func):Prop:=∀ n args,run E (n+1) f args=qlw E (mkR (run E n)) s q F n args
theorem run_Z41:RT n_Z41 sg_Z41 pol_Z41 F_Z41:=fun _ _=>rfl
theorem run_Z53:RT n_Z53 sg_Z53 pol_Z53 F_Z53:=fun _ _=>rfl
theorem run_Z83:RT n_Z83 sg_Z83 pol_Z83 F_Z83:=fun _ _=>rfl
theorem run_Z59:RT n_Z59 sg_Z59 pol_Z59 F_Z59:=fun _ _=>rfl
theorem run_Z9:RT n_Z9 sg_Z9 pol_Z9 F_Z9:=fun _ _=>rfl
theorem run_Z47:RT n_Z47 sg_Z47 pol_Z47 F_Z47:=fun _ _=>rfl
theorem run_Z48:RT n_Z48 sg_Z48 pol_Z48 F_Z48:=fun _ _=>rfl
theorem run_Z49:RT n_Z49 sg_Z49 pol_Z49 F_Z49:=fun _ _=>rfl
theorem run_Z52:RT n_Z52 sg_Z52 pol_Z52 F_Z52:=fun _ _=>rfl
theorem run_Z108:RT n_Z108 sg_Z108 pol_Z108 F_Z108:=fun _ _=>rfl
theorem run_Z112:RT n_Z112 sg_Z112 pol_Z112 F_Z112:=fun _ _=>rfl
theorem run_Z54:RT n_Z54 sg_Z54 pol_Z54 F_Z54:=fun _ _=>rfl
theorem run_Z55:RT n_Z55 sg_Z55 pol_Z55 F_Z55:=fun _ _=>rfl
theorem run_Z58:RT n_Z58 sg_Z58 pol_Z58 F_Z58:=fun _ _=>rfl
theorem run_Z14:RT n_Z14 sg_Z14 pol_Z14 F_Z14:=fun _ _=>rfl
theorem run_Z5:RT n_Z5 sg_Z5 pol_Z5 F_Z5:=fun _ _=>rfl
theorem run_Z6:RT n_Z6 sg_Z6 pol_Z6 F_Z6:=fun _ _=>rfl
theorem run_Z7:RT n_Z7 sg_Z7 pol_Z7 F_Z7:=fun _ _=>rfl
theorem sig_strings_Join_eq:E.sig n_Z114=some sg_Z114:=rfl
theorem run_Z42:RT n_Z42 sg_Z42 pol_Z42 F_Z42:=fun _ _=>rfl
theorem run_Z43:RT n_Z43 sg_Z43 pol_Z43 F_Z43:=fun _ _=>rfl
theorem run_Z46:RT n_Z46 sg_Z46 pol_Z46 F_Z46:=fun _ _=>rfl
theorem run_Z21:RT n_Z21 sg_Z21 pol_Z21 F_Z21:=fun _ _=>rfl
theorem run_Z38:RT n_Z38 sg_Z38 pol_Z38 F_Z38:=fun _ _=>rfl
theorem run_Z104:RT n_Z104 sg_Z104 pol_Z104 F_Z104:=fun _ _=>rfl
theorem run_Z29:RT n_Z29 sg_Z29 pol_Z29 F_Z29:=fun _ _=>rfl
theorem run_Z97:RT n_Z97 sg_Z97 pol_Z97 F_Z97:=fun _ _=>rfl
theorem run_Z12:RT n_Z12 sg_Z12 pol_Z12 F_Z12:=fun _ _=>rfl
theorem run_Z40:RT n_Z40 sg_Z40 pol_Z40 F_Z40:=fun _ _=>rfl
theorem run_Z37:RT n_Z37 sg_Z37 pol_Z37 F_Z37:=fun _ _=>rfl
theorem run_Z23:RT n_Z23 sg_Z23 pol_Z23 F_Z23:=fun _ _=>rfl
theorem run_Z50:RT n_Z50 sg_Z50 pol_Z50 F_Z50:=fun _ _=>rfl
theorem run_Z51:RT n_Z51 sg_Z51 pol_Z51 F_Z51:=fun _ _=>rfl
theorem run_Z101:RT n_Z101 sg_Z101 pol_Z101 F_Z101:=fun _ _=>rfl
theorem run_Z84:RT n_Z84 sg_Z84 pol_Z84 F_Z84:=fun _ _=>rfl
theorem run_Z110:RT n_Z110 sg_Z110 pol_Z110 F_Z110:=fun _ _=>rfl
theorem run_Z106:RT n_Z106 sg_Z106 pol_Z106 F_Z106:=fun _ _=>rfl
theorem run_Z107:RT n_Z107 sg_Z107 pol_Z107 F_Z107:=fun _ _=>rfl
theorem run_Z109:RT n_Z109 sg_Z109 pol_Z109 F_Z109:=fun _ _=>rfl
theorem run_Z105:RT n_Z105 sg_Z105 pol_Z105 F_Z105:=fun _ _=>rfl
theorem run_Z90:RT n_Z90 sg_Z90 pol_Z90 F_Z90:=fun _ _=>rfl
theorem run_Z91:RT n_Z91 sg_Z91 pol_Z91 F_Z91:=fun _ _=>rfl
theorem run_Z56:RT n_Z56 sg_Z56 pol_Z56 F_Z56:=fun _ _=>rfl
theorem run_Z57:RT n_Z57 sg_Z57 pol_Z57 F_Z57:=fun _ _=>rfl
theorem run_Z10:RT n_Z10 sg_Z10 pol_Z10 F_Z10:=fun _ _=>rfl
theorem run_Z13:RT n_Z13 sg_Z13 pol_Z13 F_Z13:=fun _ _=>rfl
theorem run_Z19:RT n_Z19 sg_Z19 pol_Z19 F_Z19:=fun _ _=>rfl
theorem run_Z27:RT n_Z27 sg_Z27 pol_Z27 F_Z27:=fun _ _=>rfl
theorem run_Z25:RT n_Z25 sg_Z25 pol_Z25 F_Z25:=fun _ _=>rfl
theorem sig_strconv_FormatInt_eq:E.sig n_Z113=some sg_Z113:=rfl
theorem run_Z66:RT n_Z66 sg_Z66 pol_Z66 F_Z66:=fun _ _=>rfl
theorem run_Z8:RT n_Z8 sg_Z8 pol_Z8 F_Z8:=fun _ _=>rfl
theorem run_Z33:RT n_Z33 sg_Z33 pol_Z33 F_Z33:=fun _ _=>rfl
theorem run_Z44:RT n_Z44 sg_Z44 pol_Z44 F_Z44:=fun _ _=>rfl
theorem run_Z45:RT n_Z45 sg_Z45 pol_Z45 F_Z45:=fun _ _=>rfl
theorem run_Z93:RT n_Z93 sg_Z93 pol_Z93 F_Z93:=fun _ _=>rfl
theorem run_Z36:RT n_Z36 sg_Z36 pol_Z36 F_Z36:=fun _ _=>rfl
theorem run_Z89:RT n_Z89 sg_Z89 pol_Z89 F_Z89:=fun _ _=>rfl
theorem run_Z35:RT n_Z35 sg_Z35 pol_Z35 F_Z35:=fun _ _=>rfl
theorem run_Z86:RT n_Z86 sg_Z86 pol_Z86 F_Z86:=fun _ _=>rfl
theorem run_Z102:RT n_Z102 sg_Z102 pol_Z102 F_Z102:=fun _ _=>rfl
theorem run_Z30:RT n_Z30 sg_Z30 pol_Z30 F_Z30:=fun _ _=>rfl
theorem run_Z72:RT n_Z72 sg_Z72 pol_Z72 F_Z72:=fun _ _=>rfl
theorem run_Z76:RT n_Z76 sg_Z76 pol_Z76 F_Z76:=fun _ _=>rfl
theorem run_Z94:RT n_Z94 sg_Z94 pol_Z94 F_Z94:=fun _ _=>rfl
theorem run_Z99:RT n_Z99 sg_Z99 pol_Z99 F_Z99:=fun _ _=>rfl
theorem run_Z96:RT n_Z96 sg_Z96 pol_Z96 F_Z96:=fun _ _=>rfl
theorem run_Z32:RT n_Z32 sg_Z32 pol_Z32 F_Z32:=fun _ _=>rfl
theorem run_Z17:RT n_Z17 sg_Z17 pol_Z17 F_Z17:=fun _ _=>rfl
theorem run_Z24:RT n_Z24 sg_Z24 pol_Z24 F_Z24:=fun _ _=>rfl
theorem run_Z26:RT n_Z26 sg_Z26 pol_Z26 F_Z26:=fun _ _=>rfl
theorem run_Z103:RT n_Z103 sg_Z103 pol_Z103 F_Z103:=fun _ _=>rfl
theorem run_Z95:RT n_Z95 sg_Z95 pol_Z95 F_Z95:=fun _ _=>rfl
theorem run_Z92:RT n_Z92 sg_Z92 pol_Z92 F_Z92:=fun _ _=>rfl
theorem run_Z111:RT n_Z111 sg_Z111 pol_Z111 F_Z111:=fun _ _=>rfl
theorem run_Z98:RT n_Z98 sg_Z98 pol_Z98 F_Z98:=fun _ _=>rfl
theorem run_Z15:RT n_Z15 sg_Z15 pol_Z15 F_Z15:=fun _ _=>rfl
theorem run_Z22:RT n_Z22 sg_Z22 pol_Z22 F_Z22:=fun _ _=>rfl
theorem run_Z64:RT n_Z64 sg_Z64 pol_Z64 F_Z64:=fun _ _=>rfl
theorem run_Z11:RT n_Z11 sg_Z11 pol_Z11 F_Z11:=fun _ _=>rfl
theorem run_Z20:RT n_Z20 sg_Z20 pol_Z20 F_Z20:=fun _ _=>rfl
theorem run_Z39:RT n_Z39 sg_Z39 pol_Z39 F_Z39:=fun _ _=>rfl
theorem run_Z87:RT n_Z87 sg_Z87 pol_Z87 F_Z87:=fun _ _=>rfl
theorem run_Z85:RT n_Z85 sg_Z85 pol_Z85 F_Z85:=fun _ _=>rfl
theorem run_Z82:RT n_Z82 sg_Z82 pol_Z82 F_Z82:=fun _ _=>rfl
theorem run_Z18:RT n_Z18 sg_Z18 pol_Z18 F_Z18:=fun _ _=>rfl
theorem run_Z28:RT n_Z28 sg_Z28 pol_Z28 F_Z28:=fun _ _=>rfl
theorem run_Z63:RT n_Z63 sg_Z63 pol_Z63 F_Z63:=fun _ _=>rfl
theorem run_Z60:RT n_Z60 sg_Z60 pol_Z60 F_Z60:=fun _ _=>rfl
theorem run_Z88:RT n_Z88 sg_Z88 pol_Z88 F_Z88:=fun _ _=>rfl
theorem run_Z100:RT n_Z100 sg_Z100 pol_Z100 F_Z100:=fun _ _=>rfl
theorem run_Z31:RT n_Z31 sg_Z31 pol_Z31 F_Z31:=fun _ _=>rfl
theorem run_Z16:RT n_Z16 sg_Z16 pol_Z16 F_Z16:=fun _ _=>rfl
theorem run_Z34:RT n_Z34 sg_Z34 pol_Z34 F_Z34:=fun _ _=>rfl
theorem run_Z2:RT n_Z2 sg_Z2 pol_Z2 F_Z2:=fun _ _=>rfl
theorem run_Z0:RT n_Z0 sg_Z0 pol_Z0 F_Z0:=fun _ _=>rfl
theorem run_Z62:RT n_Z62 sg_Z62 pol_Z62 F_Z62:=fun _ _=>rfl
theorem run_Z74:RT n_Z74 sg_Z74 pol_Z74 F_Z74:=fun _ _=>rfl
theorem sig_slices_Grow_Sint64_int64_eq:E.sig n_Z73=some sg_Z73:=rfl
theorem run_Z3:RT n_Z3 sg_Z3 pol_Z3 F_Z3:=fun _ _=>rfl
theorem run_Z1:RT n_Z1 sg_Z1 pol_Z1 F_Z1:=fun _ _=>rfl
theorem run_Z4:RT n_Z4 sg_Z4 pol_Z4 F_Z4:=fun _ _=>rfl
abbrev eC(R:Run)(q:Pol)(N:Nat)(l:List Nat)(F:Func):=qbn E R q N (sub l (bodyOf F))
abbrev kB(R:Run)(q:Pol)(k:Nat)(K:Kt):=qlN (qeB R q.blkM k) k K
abbrev kS(R:Run)(q:Pol)(k N:Nat)(l:List Nat)(F:Func)(K:Kt):=qlV (qeB R q.seqM k) (qbn E R q N (sub l (bodyOf F))) K
abbrev kL(R:Run)(q:Pol)(k N:Nat)(l:List Nat)(F:Func)(n:Nat)(K:Kt):=qlW (qbn E R q N (sub l (bodyOf F))) (qeB R q.loopM k) n K
abbrev lC(R:Run)(q:Pol)(k N:Nat)(l:List Nat)(F:Func)(n:Nat)(s:Ve.St)(K:Kt):=qjv (qbn E R q N (sub l (bodyOf F))) (qeB R q.loopM k) n s K
end
end VeT

open Go Go.Proofs Ve
set_option maxRecDepth 100000
namespace VeT
noncomputable section
abbrev q0_0(R:Run)(N:Nat):=kS R pol_Z101 5 N [1,1,0,1,0,0,1,1] F_Z101
abbrev q0_1(R:Run)(N:Nat):=kS R pol_Z101 14 N [1,1,1] F_Z101
abbrev q0_2(R:Run)(N:Nat):=kS R pol_Z108 11 N [1,1,1] F_Z108
abbrev q0_3(R:Run)(N:Nat):=kL R pol_Z101 4 N [1,1,0,1,0,0] F_Z101
theorem Z49.ev(R:Run)(N:Nat)(a0:List Int)(a1:Int):qlw E R sg_Z49 pol_Z49 F_Z49 N [⟨yL,a0⟩,⟨yI,a1⟩]=(bif (decide ((w64 (a1-(List.length a0:Int)))<(0:Int))) then some ⟨o_Z49,((-1:Int),())⟩ else some ⟨o_Z49,((w64 (a1-(List.length a0:Int))),())⟩):=by kernel_rfl
def Z50.l0(R:Run)(N n:Nat)(a:vK)(b e:Int):Option Dv:=R.w (some ⟨(.c (.d yK a)::(.c (.d yI b)::(zd 3 (.c (.d yI e)::(zd 21 []))))),(zo 29 [])⟩) fun st=>lC R pol_Z50 5 N [1,1,1,0,1,0,0] F_Z50 n st (kB R pol_Z50 0 (kS R pol_Z50 10 N [1,1,1,1] F_Z50 (qlU E sg_Z50 F_Z50)))
theorem Z50.l0_succ(R:Run)(hw:R.ok)(N n:Nat)(a:vK)(b c:Int):Z50.l0 R N (n+1) a b c=(bif (decide (c<(List.length a:Int))) then((idx? a c).bind fun y4=>((qjK R n_Z49 o_Z49 [⟨yL,(y4,()).1⟩,⟨yI,b⟩]).bind fun r5=>(bif (decide (r5.1<(0:Int))) then some ⟨o_Z50,((-1:Int),())⟩ else(Z50.l0 R N n a r5.1 (w64 (c+1)))))) else some ⟨o_Z50,(b,())⟩):=(hw _ _).trans (by kernel_rfl)
theorem Z50.ev(R:Run)(N:Nat)(a0:vK)(a1:Int):qlw E R sg_Z50 pol_Z50 F_Z50 N [⟨yK,a0⟩,⟨yI,a1⟩]=(bif (decide ((w64 (a1-(List.length a0:Int)))<(0:Int))) then some ⟨o_Z50,((-1:Int),())⟩ else(Z50.l0 R N N a0 (w64 (a1-(List.length a0:Int))) (0:Int))):=by kernel_rfl
theorem Z48.ev(R:Run)(N:Nat)(a0:vK)(a1:Int):qlw E R sg_Z48 pol_Z48 F_Z48 N [⟨yK,a0⟩,⟨yI,a1⟩]=((qjK R n_Z50 o_Z50 [⟨yK,a0⟩,⟨yI,a1⟩]).bind fun r1=>(bif (decide (r1.1<(0:Int))) then some ⟨o_Z48,((-1:Int),())⟩ else some ⟨o_Z48,(r1.1,())⟩)):=by kernel_rfl
theorem Z51.ev(R:Run)(N:Nat)(a0 a1 a2:Int)(a3:List Int)(a4:Int):qlw E R sg_Z51 pol_Z51 F_Z51 N [⟨yI,a0⟩,⟨yI,a1⟩,⟨yI,a2⟩,⟨yL,a3⟩,⟨yI,a4⟩]=((qjK R n_Z49 o_Z49 [⟨yL,a3⟩,⟨yI,a4⟩]).bind fun r1=>(bif (decide (r1.1<(0:Int))) then some ⟨o_Z51,((-1:Int),())⟩ else some ⟨o_Z51,(r1.1,())⟩)):=by kernel_rfl
def Z52.l0(R:Run)(N n:Nat)(a:vN)(b e:Int):Option Dv:=R.w (some ⟨(.c (.d yN a)::(.c (.d yI b)::(zd 3 (.c (.d yI e)::(zd 21 []))))),(zo 29 [])⟩) fun st=>lC R pol_Z52 5 N [1,1,1,0,1,0,0] F_Z52 n st (kB R pol_Z52 0 (kS R pol_Z52 10 N [1,1,1,1] F_Z52 (qlU E sg_Z52 F_Z52)))
theorem Z52.l0_succ(R:Run)(hw:R.ok)(N n:Nat)(a:vN)(b c:Int):Z52.l0 R N (n+1) a b c=(bif (decide (c<(List.length a:Int))) then((idx? a c).bind fun y4=>((qjK R n_Z51 o_Z51 [⟨yI,y4.1⟩,⟨yI,y4.2.1⟩,⟨yI,y4.2.2.1⟩,⟨yL,y4.2.2.2.1⟩,⟨yI,b⟩]).bind fun r5=>(bif (decide (r5.1<(0:Int))) then some ⟨o_Z52,((-1:Int),())⟩ else(Z52.l0 R N n a r5.1 (w64 (c+1)))))) else some ⟨o_Z52,(b,())⟩):=(hw _ _).trans (by kernel_rfl)
theorem Z52.ev(R:Run)(N:Nat)(a0:vN)(a1:Int):qlw E R sg_Z52 pol_Z52 F_Z52 N [⟨yN,a0⟩,⟨yI,a1⟩]=(bif (decide ((w64 (a1-(List.length a0:Int)))<(0:Int))) then some ⟨o_Z52,((-1:Int),())⟩ else(Z52.l0 R N N a0 (w64 (a1-(List.length a0:Int))) (0:Int))):=by kernel_rfl
theorem Z53.ev(R:Run)(N:Nat)(a0:vK)(a1:Int)(a2:List Int)(a3:vN)(a4:Int):qlw E R sg_Z53 pol_Z53 F_Z53 N [⟨yK,a0⟩,⟨yI,a1⟩,⟨yL,a2⟩,⟨yN,a3⟩,⟨yI,a4⟩]=((qjK R n_Z48 o_Z48 [⟨yK,a0⟩,⟨yI,a4⟩]).bind fun r1=>(bif (decide (r1.1<(0:Int))) then some ⟨o_Z53,((-1:Int),())⟩ else((qjK R n_Z49 o_Z49 [⟨yL,a2⟩,⟨yI,r1.1⟩]).bind fun r2=>(bif (decide (r2.1<(0:Int))) then some ⟨o_Z53,((-1:Int),())⟩ else((qjK R n_Z52 o_Z52 [⟨yN,a3⟩,⟨yI,r2.1⟩]).bind fun r3=>(bif (decide (r3.1<(0:Int))) then some ⟨o_Z53,((-1:Int),())⟩ else some ⟨o_Z53,(r3.1,())⟩)))))):=by kernel_rfl
def Z55.l0(R:Run)(N n:Nat)(a:List Int)(b:Int)(e:List Int):Option Dv:=R.w (some ⟨(.c (.d yL a)::(V.dead::(V.dead::(.c (.arr 7)::(.c (.d yI b)::(zd 17 [])))))),(zo 7 (some (.arr yI e true false false)::(zo 15 [])))⟩) fun st=>lC R pol_Z55 3 N [1,1,0,1,0,0] F_Z55 n st (kB R pol_Z55 0 (kS R pol_Z55 6 N [1,1,1] F_Z55 (qlU E sg_Z55 F_Z55)))
theorem Z55.l0_succ(R:Run)(hw:R.ok)(N n:Nat)(a:List Int)(b:Int)(c:List Int):Z55.l0 R N (n+1) a b c=(bif (decide (b<(List.length a:Int))) then((idx? a b).bind fun y4=>((chk (decide (0≤b)&&decide (b<(List.length c:Int)))).bind fun _=>(Z55.l0 R N n a (w64 (b+1)) (List.set c (Int.toNat b) (y4,()).1)))) else some ⟨o_Z55,(c,())⟩):=(hw _ _).trans (by kernel_rfl)
theorem Z55.ev(R:Run)(N:Nat)(a0:List Int):qlw E R sg_Z55 pol_Z55 F_Z55 N [⟨yL,a0⟩]=((chk (decide (0≤(List.length a0:Int))&&decide ((List.length a0:Int)*8≤70368744177664))).bind fun _=>(Z55.l0 R N N a0 (0:Int) (List.replicate (Int.toNat (List.length a0:Int)) (0:Int)))):=by kernel_rfl
def Z56.l0(R:Run)(N n:Nat)(a:vK)(b:Int)(e:vK):Option Dv:=R.w (some ⟨(.c (.d yK a)::(V.dead::(V.dead::(.c (.arr 7)::(.c (.d yI b)::(zd 18 [])))))),(zo 7 (some (.arr yL e true false false)::(zo 17 [])))⟩) fun st=>lC R pol_Z56 3 N [1,1,0,1,0,0] F_Z56 n st (kB R pol_Z56 0 (kS R pol_Z56 6 N [1,1,1] F_Z56 (qlU E sg_Z56 F_Z56)))
theorem Z56.l0_succ(R:Run)(hw:R.ok)(N n:Nat)(a:vK)(b:Int)(c:vK):Z56.l0 R N (n+1) a b c=(bif (decide (b<(List.length a:Int))) then((idx? a b).bind fun y4=>((qjK R n_Z55 o_Z55 [⟨yL,(y4,()).1⟩]).bind fun r5=>((chk (decide (0≤b)&&decide (b<(List.length c:Int)))).bind fun _=>(Z56.l0 R N n a (w64 (b+1)) (List.set c (Int.toNat b) r5.1))))) else some ⟨o_Z56,(c,())⟩):=(hw _ _).trans (by kernel_rfl)
theorem Z56.ev(R:Run)(N:Nat)(a0:vK):qlw E R sg_Z56 pol_Z56 F_Z56 N [⟨yK,a0⟩]=((chk (decide (0≤(List.length a0:Int))&&decide ((List.length a0:Int)*24≤70368744177664))).bind fun _=>(Z56.l0 R N N a0 (0:Int) (List.replicate (Int.toNat (List.length a0:Int)) ([]:List Int)))):=by kernel_rfl
theorem Z54.ev(R:Run)(N:Nat)(a0:vK):qlw E R sg_Z54 pol_Z54 F_Z54 N [⟨yK,a0⟩]=((qjK R n_Z56 o_Z56 [⟨yK,a0⟩]).bind fun r1=>some ⟨o_Z54,(r1.1,())⟩):=by kernel_rfl
theorem Z57.ev(R:Run)(N:Nat)(a0 a1 a2:Int)(a3:List Int):qlw E R sg_Z57 pol_Z57 F_Z57 N [⟨yI,a0⟩,⟨yI,a1⟩,⟨yI,a2⟩,⟨yL,a3⟩]=((qjK R n_Z55 o_Z55 [⟨yL,a3⟩]).bind fun r1=>some ⟨o_Z57,(a0,a1,a2,r1.1,())⟩):=by kernel_rfl
def Z58.l0(R:Run)(N n:Nat)(a:vN)(b:Int)(e:vN):Option Dv:=R.w (some ⟨(.c (.d yN a)::(V.dead::(V.dead::(.c (.arr 7)::(.c (.d yI b)::(zd 18 [])))))),(zo 7 (some (.arr (.st yM) e true false false)::(zo 17 [])))⟩) fun st=>lC R pol_Z58 3 N [1,1,0,1,0,0] F_Z58 n st (kB R pol_Z58 0 (kS R pol_Z58 6 N [1,1,1] F_Z58 (qlU E sg_Z58 F_Z58)))
theorem Z58.l0_succ(R:Run)(hw:R.ok)(N n:Nat)(a:vN)(b:Int)(c:vN):Z58.l0 R N (n+1) a b c=(bif (decide (b<(List.length a:Int))) then((idx? a b).bind fun y4=>((qjK R n_Z57 o_Z57 [⟨yI,y4.1⟩,⟨yI,y4.2.1⟩,⟨yI,y4.2.2.1⟩,⟨yL,y4.2.2.2.1⟩]).bind fun r5=>((chk (decide (0≤b)&&decide (b<(List.length c:Int)))).bind fun _=>(Z58.l0 R N n a (w64 (b+1)) (List.set c (Int.toNat b) (r5.1,r5.2.1,r5.2.2.1,r5.2.2.2.1,())))))) else some ⟨o_Z58,(c,())⟩):=(hw _ _).trans (by kernel_rfl)
theorem Z58.ev(R:Run)(N:Nat)(a0:vN):qlw E R sg_Z58 pol_Z58 F_Z58 N [⟨yN,a0⟩]=((chk (decide (0≤(List.length a0:Int))&&decide ((List.length a0:Int)*48≤70368744177664))).bind fun _=>(Z58.l0 R N N a0 (0:Int) (List.replicate (Int.toNat (List.length a0:Int)) ((0:Int),(0:Int),(0:Int),([]:List Int),())))):=by kernel_rfl
theorem Z59.ev(R:Run)(N:Nat)(a0:vK)(a1:Int)(a2:List Int)(a3:vN):qlw E R sg_Z59 pol_Z59 F_Z59 N [⟨yK,a0⟩,⟨yI,a1⟩,⟨yL,a2⟩,⟨yN,a3⟩]=((qjK R n_Z54 o_Z54 [⟨yK,a0⟩]).bind fun r1=>((qjK R n_Z55 o_Z55 [⟨yL,a2⟩]).bind fun r2=>((qjK R n_Z58 o_Z58 [⟨yN,a3⟩]).bind fun r3=>some ⟨o_Z59,(r1.1,a1,r2.1,r3.1,())⟩))):=by kernel_rfl
theorem Z86.ev(R:Run)(N:Nat)(a0 a1 a2:Int):qlw E R sg_Z86 pol_Z86 F_Z86 N [⟨yI,a0⟩,⟨yI,a1⟩,⟨yI,a2⟩]=(bif (decide (a0≥a1)) then some ⟨o_Z86,((decide (a0≤a2)),())⟩ else some ⟨o_Z86,(false,())⟩):=by kernel_rfl
def Z88.j1(R:Run)(N a:Nat)(b:List Int)(e f g:Int)(h:Bool):Option Dv:=R.w (some ⟨(.c (.d yL b)::(.c (.d yI e)::(.c (.d yI f)::(zd 4 (.c (.d yI g)::(zd 29 (.c (.d .bool h)::[]))))))),(zo 41 [])⟩) fun st=>eC R pol_Z88 N [1,0,1,0,0,1,0,0,1] F_Z88 st (kB R pol_Z88 1 (kS R pol_Z88 3 N [1,0,1,0,0,1,1] F_Z88 (kL R pol_Z88 2 N [1,0,1,0,0] F_Z88 a (kB R pol_Z88 0 (kS R pol_Z88 6 N [1,1] F_Z88 (qlU E sg_Z88 F_Z88))))))
def Z88.l0(R:Run)(N n:Nat)(a:List Int)(b e f:Int):Option Dv:=R.w (some ⟨(.c (.d yL a)::(.c (.d yI b)::(.c (.d yI e)::(zd 4 (.c (.d yI f)::(zd 30 [])))))),(zo 41 [])⟩) fun st=>lC R pol_Z88 2 N [1,0,1,0,0] F_Z88 n st (kB R pol_Z88 0 (kS R pol_Z88 6 N [1,1] F_Z88 (qlU E sg_Z88 F_Z88)))
theorem Z88.j1_eq(R:Run)(hw:R.ok)(N a:Nat)(b:List Int)(c d e:Int)(f:Bool):Z88.j1 R N a b c d e f=(bif f then some ⟨o_Z88,(false,())⟩ else(Z88.l0 R N a b c d (w64 (e+1)))):=(hw _ _).trans (by kernel_rfl)
theorem Z88.l0_succ(R:Run)(hw:R.ok)(N n:Nat)(a:List Int)(b c d:Int):Z88.l0 R N (n+1) a b c d=(bif (decide (d<(List.length a:Int))) then((idx? a d).bind fun y5=>((qjK R n_Z86 o_Z86 [⟨yI,(y5,()).1⟩,⟨yI,b⟩,⟨yI,c⟩]).bind fun r6=>(bif (!r6.1) then(Z88.j1 R N n a b c d true) else(bif (decide (d>(0:Int))) then((idx? a (w64 (d-1))).bind fun y16=>((idx? a d).bind fun y17=>(Z88.j1 R N n a b c d (decide ((y16,()).1≥(y17,()).1))))) else(Z88.j1 R N n a b c d false))))) else some ⟨o_Z88,(true,())⟩):=(hw _ _).trans (by kernel_rfl)
theorem Z88.ev(R:Run)(N:Nat)(a0:List Int)(a1 a2:Int):qlw E R sg_Z88 pol_Z88 F_Z88 N [⟨yL,a0⟩,⟨yI,a1⟩,⟨yI,a2⟩]=(Z88.l0 R N N a0 a1 a2 (0:Int)):=by kernel_rfl
theorem Z103.ev(R:Run)(N:Nat)(a0:List Int):qlw E R sg_Z103 pol_Z103 F_Z103 N [⟨yL,a0⟩]=((qjK R n_Z86 o_Z86 [⟨yI,(List.length a0:Int)⟩,⟨yI,(1:Int)⟩,⟨yI,(4:Int)⟩]).bind fun r1=>(bif r1.1 then((qjK R n_Z88 o_Z88 [⟨yL,a0⟩,⟨yI,(0:Int)⟩,⟨yI,(9:Int)⟩]).bind fun r2=>some ⟨o_Z103,(r2.1,())⟩) else some ⟨o_Z103,(false,())⟩)):=by kernel_rfl
def Z95.l0(R:Run)(N n:Nat)(a b:List Int)(e:Int):Option Dv:=R.w (some ⟨(.c (.d yL a)::(.c (.d yL b)::(zd 3 (.c (.d yI e)::(zd 34 []))))),(zo 42 [])⟩) fun st=>lC R pol_Z95 4 N [1,1,0,1,0,0] F_Z95 n st (kB R pol_Z95 0 (kS R pol_Z95 8 N [1,1,1] F_Z95 (qlU E sg_Z95 F_Z95)))
theorem Z95.l0_succ(R:Run)(hw:R.ok)(N n:Nat)(a b:List Int)(c:Int):Z95.l0 R N (n+1) a b c=(bif (decide (c<(List.length a:Int))) then((idx? a c).bind fun y4=>((idx? b c).bind fun y5=>(bif ((y4,()).1 != (y5,()).1) then((idx? a c).bind fun y6=>((idx? b c).bind fun y7=>some ⟨o_Z95,((decide ((y6,()).1<(y7,()).1)),())⟩)) else(Z95.l0 R N n a b (w64 (c+1)))))) else some ⟨o_Z95,(false,())⟩):=(hw _ _).trans (by kernel_rfl)
theorem Z95.ev(R:Run)(N:Nat)(a0 a1:List Int):qlw E R sg_Z95 pol_Z95 F_Z95 N [⟨yL,a0⟩,⟨yL,a1⟩]=(bif ((List.length a0:Int) != (List.length a1:Int)) then some ⟨o_Z95,((decide ((List.length a0:Int)<(List.length a1:Int))),())⟩ else(Z95.l0 R N N a0 a1 (0:Int))):=by kernel_rfl
theorem Z87.ev(R:Run)(N:Nat)(a0:List Int):qlw E R sg_Z87 pol_Z87 F_Z87 N [⟨yL,a0⟩]=((chk (decide ((List.length ([]:List Int)+List.length a0)*8≤70368744177664))).bind fun _=>some ⟨o_Z87,((([]:List Int)++a0),())⟩):=by kernel_rfl
theorem Z96.ev(R:Run)(N:Nat)(a0:List Int)(a1:Int):qlw E R sg_Z96 pol_Z96 F_Z96 N [⟨yL,a0⟩,⟨yI,a1⟩]=((chk (decide (0≤a1)&&decide (a1≤(List.length a0:Int)))).bind fun _=>((qjK R n_Z87 o_Z87 [⟨yL,(List.take (Int.toNat a1) a0)⟩]).bind fun r1=>((chk (decide (0≤(w64 (a1+1)))&&decide ((w64 (a1+1))≤(List.length a0:Int)))).bind fun _=>((chk (decide ((List.length r1.1+List.length (List.drop (Int.toNat (w64 (a1+1))) a0))*8≤70368744177664))).bind fun _=>some ⟨o_Z96,((r1.1++(List.drop (Int.toNat (w64 (a1+1))) a0)),())⟩)))):=by kernel_rfl
def Z89.l0(R:Run)(N n:Nat)(a b:List Int)(e:Int):Option Dv:=R.w (some ⟨(.c (.d yL a)::(.c (.d yL b)::(zd 3 (.c (.d yI e)::(zd 20 []))))),(zo 28 [])⟩) fun st=>lC R pol_Z89 4 N [1,1,0,1,0,0] F_Z89 n st (kB R pol_Z89 0 (kS R pol_Z89 8 N [1,1,1] F_Z89 (qlU E sg_Z89 F_Z89)))
theorem Z89.l0_succ(R:Run)(hw:R.ok)(N n:Nat)(a b:List Int)(c:Int):Z89.l0 R N (n+1) a b c=(bif (decide (c<(List.length a:Int))) then((idx? a c).bind fun y4=>((idx? b c).bind fun y5=>(bif ((y4,()).1 != (y5,()).1) then some ⟨o_Z89,(false,())⟩ else(Z89.l0 R N n a b (w64 (c+1)))))) else some ⟨o_Z89,(true,())⟩):=(hw _ _).trans (by kernel_rfl)
theorem Z89.ev(R:Run)(N:Nat)(a0 a1:List Int):qlw E R sg_Z89 pol_Z89 F_Z89 N [⟨yL,a0⟩,⟨yL,a1⟩]=(bif ((List.length a0:Int) != (List.length a1:Int)) then some ⟨o_Z89,(false,())⟩ else(Z89.l0 R N N a0 a1 (0:Int))):=by kernel_rfl
def Z99.l0(R:Run)(N n:Nat)(a:(vK×Unit))(b:List Int)(e:Int):Option Dv:=R.w (some ⟨(.c (.ip yC a 0)::(.c (.d yL b)::(zd 3 (.c (.d yI e)::(zd 19 []))))),(zo 27 [])⟩) fun st=>lC R pol_Z99 2 N [1,0,1,0,0] F_Z99 n st (kB R pol_Z99 0 (kS R pol_Z99 6 N [1,1] F_Z99 (qlU E sg_Z99 F_Z99)))
theorem Z99.l0_succ(R:Run)(hw:R.ok)(N n:Nat)(a:(vK×Unit))(b:List Int)(c:Int):Z99.l0 R N (n+1) a b c=(bif (decide (c<(List.length a.1:Int))) then((idx? a.1 c).bind fun y4=>((qjK R n_Z89 o_Z89 [⟨yL,(y4,()).1⟩,⟨yL,b⟩]).bind fun r5=>(bif r5.1 then some ⟨o_Z99,(c,())⟩ else(Z99.l0 R N n a b (w64 (c+1)))))) else some ⟨o_Z99,((-1:Int),())⟩):=(hw _ _).trans (by kernel_rfl)
theorem Z99.ev(R:Run)(N:Nat)(a0:(vK×Unit))(a1:List Int):qlw E R sg_Z99 pol_Z99 F_Z99 N [⟨(.ptr yC),a0⟩,⟨yL,a1⟩]=(Z99.l0 R N N a0 a1 (0:Int)):=by kernel_rfl
def Z101.j3(R:Run)(N a b:Nat)(e:(vK×Unit))(f:Int)(g:List Int)(h:Int)(i:Bool):Option Dv:=R.w (some ⟨(.c (.ip yC e 0)::(V.dead::(V.dead::(.c (.d yI f)::(.c (.d yL g)::(.c (.d yI h)::(zd 50 (.c (.d .bool i)::(zd 8 []))))))))),(zo 66 [])⟩) fun st=>eC R pol_Z101 N [1,1,0,1,0,0,1,0,0,1,1,1,0,0,0,1] F_Z101 st (kS R pol_Z101 12 N [1,1,0,1,0,0,1,0,0,1,1,1,0,0,1] F_Z101 (kL R pol_Z101 10 N [1,1,0,1,0,0,1,0,0,1,1,1,0,0] F_Z101 b (kB R pol_Z101 2 (kB R pol_Z101 1 (q0_0 R N (q0_3 R N a (kB R pol_Z101 0 (q0_1 R N (qlU E sg_Z101 F_Z101)))))))))
def Z101.l2(R:Run)(N a n:Nat)(b:(vK×Unit))(e:Int)(f:List Int)(g:Int):Option Dv:=R.w (some ⟨(.c (.ip yC b 0)::(V.dead::(V.dead::(.c (.d yI e)::(.c (.d yL f)::(.c (.d yI g)::(zd 59 []))))))),(zo 66 [])⟩) fun st=>lC R pol_Z101 10 N [1,1,0,1,0,0,1,0,0,1,1,1,0,0] F_Z101 n st (kB R pol_Z101 2 (kB R pol_Z101 1 (q0_0 R N (q0_3 R N a (kB R pol_Z101 0 (q0_1 R N (qlU E sg_Z101 F_Z101)))))))
def Z101.j1(R:Run)(N a:Nat)(b:(vK×Unit))(e:Int)(f:List Int)(g:Bool):Option Dv:=R.w (some ⟨(.c (.ip yC b 0)::(V.dead::(V.dead::(.c (.d yI e)::(.c (.d yL f)::(zd 42 (.c (.d .bool g)::(zd 17 [])))))))),(zo 66 [])⟩) fun st=>eC R pol_Z101 N [1,1,0,1,0,0,1,0,0,1,0,1] F_Z101 st (kS R pol_Z101 9 N [1,1,0,1,0,0,1,0,0,1,1] F_Z101 (kB R pol_Z101 1 (q0_0 R N (q0_3 R N a (kB R pol_Z101 0 (q0_1 R N (qlU E sg_Z101 F_Z101)))))))
def Z101.l0(R:Run)(N n:Nat)(a:(vK×Unit))(b:Int):Option Dv:=R.w (some ⟨(.c (.ip yC a 0)::(V.dead::(V.dead::(.c (.d yI b)::(zd 61 []))))),(zo 66 [])⟩) fun st=>lC R pol_Z101 4 N [1,1,0,1,0,0] F_Z101 n st (kB R pol_Z101 0 (q0_1 R N (qlU E sg_Z101 F_Z101)))
theorem Z101.j3_eq(R:Run)(hw:R.ok)(N a b:Nat)(c:(vK×Unit))(d:Int)(e:List Int)(f:Int)(g:Bool):Z101.j3 R N a b c d e f g=(bif g then((qjK R n_Z96 o_Z96 [⟨yL,e⟩,⟨yI,f⟩]).bind fun r18=>((qjK R n_Z99 o_Z99 [⟨(.ptr yC),c⟩,⟨yL,r18.1⟩]).bind fun r19=>(bif (decide (r19.1<(0:Int))) then some ⟨o_Z101,(false,())⟩ else(Z101.l2 R N a b c d e (w64 (f+1)))))) else(Z101.l0 R N a c (w64 (d+1)))):=(hw _ _).trans (by kernel_rfl)
theorem Z101.l2_succ(R:Run)(hw:R.ok)(N a n:Nat)(b:(vK×Unit))(c:Int)(d:List Int)(e:Int):Z101.l2 R N a (n+1) b c d e=(bif (decide (e<(List.length d:Int))) then(Z101.j3 R N a n b c d e (decide ((List.length d:Int)>(1:Int)))) else(Z101.j3 R N a n b c d e false)):=(hw _ _).trans (by kernel_rfl)
theorem Z101.j1_eq(R:Run)(hw:R.ok)(N a:Nat)(b:(vK×Unit))(c:Int)(d:List Int)(e:Bool):Z101.j1 R N a b c d e=(bif e then some ⟨o_Z101,(false,())⟩ else(Z101.l2 R N a N b c d (0:Int))):=(hw _ _).trans (by kernel_rfl)
theorem Z101.l0_succ(R:Run)(hw:R.ok)(N n:Nat)(a:(vK×Unit))(b:Int):Z101.l0 R N (n+1) a b=(bif (decide (b<(List.length a.1:Int))) then((idx? a.1 b).bind fun y3=>((qjK R n_Z103 o_Z103 [⟨yL,(y3,()).1⟩]).bind fun r4=>(bif (!r4.1) then(Z101.j1 R N n a b ((y3,()).1) true) else(bif (decide (b>(0:Int))) then((idx? a.1 (w64 (b-1))).bind fun y31=>((qjK R n_Z95 o_Z95 [⟨yL,(y31,()).1⟩,⟨yL,(y3,()).1⟩]).bind fun r32=>(Z101.j1 R N n a b ((y3,()).1) (!r32.1)))) else(Z101.j1 R N n a b ((y3,()).1) false))))) else some ⟨o_Z101,(true,())⟩):=(hw _ _).trans (by kernel_rfl)
theorem Z101.ev(R:Run)(N:Nat)(a0:(vK×Unit)):qlw E R sg_Z101 pol_Z101 F_Z101 N [⟨(.ptr yC),a0⟩]=(bif (decide ((List.length a0.1:Int)>(48:Int))) then some ⟨o_Z101,(false,())⟩ else(Z101.l0 R N N a0 (0:Int))):=by kernel_rfl
def Z92.l0(R:Run)(N n:Nat)(a b:Int):Option Dv:=R.w (some ⟨(.c (.d yI a)::(V.dead::(V.dead::(.c (.d yI b)::(zd 14 []))))),(zo 19 [])⟩) fun st=>lC R pol_Z92 4 N [1,1,0,1,0,0] F_Z92 n st (kB R pol_Z92 0 (kS R pol_Z92 8 N [1,1,1] F_Z92 (qlU E sg_Z92 F_Z92)))
theorem Z92.l0_succ(R:Run)(hw:R.ok)(N n:Nat)(a b:Int):Z92.l0 R N (n+1) a b=(bif (decide ((w64 (b*b))≤a)) then((chk (b != 0)).bind fun _=>(bif ((Int.tmod a b)==(0:Int)) then some ⟨o_Z92,(false,())⟩ else(Z92.l0 R N n a (w64 (b+1))))) else some ⟨o_Z92,(true,())⟩):=(hw _ _).trans (by kernel_rfl)
theorem Z92.ev(R:Run)(N:Nat)(a0:Int):qlw E R sg_Z92 pol_Z92 F_Z92 N [⟨yI,a0⟩]=((qjK R n_Z86 o_Z86 [⟨yI,a0⟩,⟨yI,(2:Int)⟩,⟨yI,(251:Int)⟩]).bind fun r1=>(bif (!r1.1) then some ⟨o_Z92,(false,())⟩ else(Z92.l0 R N N a0 (2:Int)))):=by kernel_rfl
theorem Z84.ev(R:Run)(N:Nat)(a0:Int):qlw E R sg_Z84 pol_Z84 F_Z84 N [⟨yI,a0⟩]=((qjK R n_Z92 o_Z92 [⟨yI,a0⟩]).bind fun r1=>some ⟨o_Z84,(r1.1,())⟩):=by kernel_rfl
def Z109.l0(R:Run)(N n:Nat)(a:(vK×Unit))(b e f g:Int):Option Dv:=R.w (some ⟨(.c (.ip yC a 0)::(.c (.d yI b)::(.c (.d yI e)::(zd 4 (.c (.d yI f)::(.c (.d yI g)::(zd 27 []))))))),(zo 39 [])⟩) fun st=>lC R pol_Z109 3 N [1,1,0,1,0,0] F_Z109 n st (kB R pol_Z109 0 (kS R pol_Z109 7 N [1,1,1] F_Z109 (qlU E sg_Z109 F_Z109)))
theorem Z109.l0_succ(R:Run)(hw:R.ok)(N n:Nat)(a:(vK×Unit))(b c d e:Int):Z109.l0 R N (n+1) a b c d e=(bif (decide (e<b)) then((idx? a.1 e).bind fun y6=>(bif (decide ((List.length (y6,()).1:Int)>(1:Int))) then((idx? a.1 e).bind fun y7=>(Z109.l0 R N n a b c (w64 (d+(List.length (y7,()).1:Int))) (w64 (e+1)))) else(Z109.l0 R N n a b c d (w64 (e+1))))) else some ⟨o_Z109,((w64 (d+c)),())⟩):=(hw _ _).trans (by kernel_rfl)
theorem Z109.ev(R:Run)(N:Nat)(a0:(vK×Unit))(a1 a2:Int):qlw E R sg_Z109 pol_Z109 F_Z109 N [⟨(.ptr yC),a0⟩,⟨yI,a1⟩,⟨yI,a2⟩]=(Z109.l0 R N N a0 a1 a2 (0:Int) (0:Int)):=by kernel_rfl
def Z97.j1(R:Run)(N a:Nat)(b:(vK×Unit))(e:List Int)(f:Int)(g:Bool)(h:List Int):Option Dv:=R.w (some ⟨(.c (.ip yC b 0)::(zd 4 (.c (.d yL e)::(.c (.arr 15)::(.c (.d yI f)::(zd 16 (.c (.d .bool g)::(zd 11 [])))))))),(zo 15 (some (.arr yI h true false false)::(zo 22 [])))⟩) fun st=>eC R pol_Z97 N [1,1,1,0,1,0,0,0,1] F_Z97 st (kS R pol_Z97 6 N [1,1,1,0,1,0,0,1] F_Z97 (kL R pol_Z97 4 N [1,1,1,0,1,0,0] F_Z97 a (kB R pol_Z97 0 (kS R pol_Z97 7 N [1,1,1,1] F_Z97 (qlU E sg_Z97 F_Z97)))))
def Z97.l0(R:Run)(N n:Nat)(a:(vK×Unit))(b:List Int)(e:Int)(f:List Int):Option Dv:=R.w (some ⟨(.c (.ip yC a 0)::(zd 4 (.c (.d yL b)::(.c (.arr 15)::(.c (.d yI e)::(zd 28 [])))))),(zo 15 (some (.arr yI f true false false)::(zo 22 [])))⟩) fun st=>lC R pol_Z97 4 N [1,1,1,0,1,0,0] F_Z97 n st (kB R pol_Z97 0 (kS R pol_Z97 7 N [1,1,1,1] F_Z97 (qlU E sg_Z97 F_Z97)))
theorem Z97.j1_eq(R:Run)(hw:R.ok)(N a:Nat)(b:(vK×Unit))(c:List Int)(d:Int)(e:Bool)(f:List Int):Z97.j1 R N a b c d e f=(bif e then((qjK R n_Z96 o_Z96 [⟨yL,c⟩,⟨yI,d⟩]).bind fun r11=>((qjK R n_Z99 o_Z99 [⟨(.ptr yC),b⟩,⟨yL,r11.1⟩]).bind fun r12=>((chk (decide ((List.length f+List.length [r12.1])*8≤70368744177664))).bind fun _=>(Z97.l0 R N a b c (w64 (d+1)) (f++[r12.1]))))) else some ⟨o_Z97,(f,())⟩):=(hw _ _).trans (by kernel_rfl)
theorem Z97.l0_succ(R:Run)(hw:R.ok)(N n:Nat)(a:(vK×Unit))(b:List Int)(c:Int)(d:List Int):Z97.l0 R N (n+1) a b c d=(bif (decide (c<(List.length b:Int))) then(Z97.j1 R N n a b c (decide ((List.length b:Int)>(1:Int))) d) else(Z97.j1 R N n a b c false d)):=(hw _ _).trans (by kernel_rfl)
theorem Z97.ev(R:Run)(N:Nat)(a0:(vK×Unit))(a1:Int):qlw E R sg_Z97 pol_Z97 F_Z97 N [⟨(.ptr yC),a0⟩,⟨yI,a1⟩]=((idx? a0.1 a1).bind fun y1=>(Z97.l0 R N N a0 ((y1,()).1) (0:Int) ([]:List Int))):=by kernel_rfl
def Z93.l0(R:Run)(N n:Nat)(a:List Int)(b e f:Int):Option Dv:=R.w (some ⟨(.c (.d yL a)::(.c (.d yI b)::(.c (.d yI e)::(zd 4 (.c (.d yI f)::(zd 18 [])))))),(zo 29 [])⟩) fun st=>lC R pol_Z93 2 N [1,0,1,0,0] F_Z93 n st (kB R pol_Z93 0 (kS R pol_Z93 6 N [1,1] F_Z93 (qlU E sg_Z93 F_Z93)))
theorem Z93.l0_succ(R:Run)(hw:R.ok)(N n:Nat)(a:List Int)(b c d:Int):Z93.l0 R N (n+1) a b c d=(bif (decide (d<(List.length a:Int))) then((idx? a d).bind fun y5=>((qjK R n_Z86 o_Z86 [⟨yI,(y5,()).1⟩,⟨yI,(0:Int)⟩,⟨yI,(w64 (c-1))⟩]).bind fun r6=>(bif (!r6.1) then some ⟨o_Z93,(false,())⟩ else(Z93.l0 R N n a b c (w64 (d+1)))))) else some ⟨o_Z93,(((List.length a:Int)==b),())⟩):=(hw _ _).trans (by kernel_rfl)
theorem Z93.ev(R:Run)(N:Nat)(a0:List Int)(a1 a2:Int):qlw E R sg_Z93 pol_Z93 F_Z93 N [⟨yL,a0⟩,⟨yI,a1⟩,⟨yI,a2⟩]=(Z93.l0 R N N a0 a1 a2 (0:Int)):=by kernel_rfl
theorem Z94.ev(R:Run)(N:Nat)(a0:vM):qlw E R sg_Z94 pol_Z94 F_Z94 N [⟨(.ptr yM),a0⟩]=((qjK R n_Z84 o_Z84 [⟨yI,a0.1⟩]).bind fun r1=>(bif r1.1 then((qjK R n_Z86 o_Z86 [⟨yI,a0.2.1⟩,⟨yI,(0:Int)⟩,⟨yI,(32:Int)⟩]).bind fun r2=>(bif r2.1 then((qjK R n_Z86 o_Z86 [⟨yI,a0.2.2.1⟩,⟨yI,(0:Int)⟩,⟨yI,(32:Int)⟩]).bind fun r3=>(bif r3.1 then((qjK R n_Z93 o_Z93 [⟨yL,a0.2.2.2.1⟩,⟨yI,(w64 (a0.2.1*a0.2.2.1))⟩,⟨yI,a0.1⟩]).bind fun r4=>some ⟨o_Z94,(r4.1,())⟩) else some ⟨o_Z94,(false,())⟩)) else some ⟨o_Z94,(false,())⟩)) else some ⟨o_Z94,(false,())⟩)):=by kernel_rfl
theorem Z107.ev(R:Run)(N:Nat)(a0:vS)(a1 a2:Int)(a3:vM):qlw E R sg_Z107 pol_Z107 F_Z107 N [⟨(.ptr yS),a0⟩,⟨yI,a1⟩,⟨yI,a2⟩,⟨(.ptr yM),a3⟩]=((qjK R n_Z97 o_Z97 [⟨(.ptr yC),(a0.1,())⟩,⟨yI,a1⟩]).bind fun r1=>((idx? r1.1 a2).bind fun y2=>((qjK R n_Z94 o_Z94 [⟨(.ptr yM),a3⟩]).bind fun r3=>(bif r3.1 then(bif (a3.1==a0.2.1) then((idx? a0.2.2.1 a1).bind fun y4=>(bif (a3.2.1==(y4,()).1) then((idx? a0.2.2.1 (y2,()).1).bind fun y5=>some ⟨o_Z107,((a3.2.2.1==(y5,()).1),())⟩) else some ⟨o_Z107,(false,())⟩)) else some ⟨o_Z107,(false,())⟩) else some ⟨o_Z107,(false,())⟩)))):=by kernel_rfl
def Z100.l0(R:Run)(N n:Nat)(a:(vK×Unit))(b e:Int)(f:List Int):Option Dv:=R.w (some ⟨(.c (.ip yC a 0)::(.c (.d yI b)::(zd 3 (.c (.arr 7)::(.c (.d yI e)::(zd 26 [])))))),(zo 7 (some (.arr yI f true false false)::(zo 27 [])))⟩) fun st=>lC R pol_Z100 3 N [1,1,0,1,0,0] F_Z100 n st (kB R pol_Z100 0 (kS R pol_Z100 7 N [1,1,1] F_Z100 (qlU E sg_Z100 F_Z100)))
theorem Z100.l0_succ(R:Run)(hw:R.ok)(N n:Nat)(a:(vK×Unit))(b c:Int)(d:List Int):Z100.l0 R N (n+1) a b c d=(bif (decide (c<(List.length a.1:Int))) then((idx? a.1 c).bind fun y5=>(bif ((List.length (y5,()).1:Int)==(w64 (b+1))) then((chk (decide ((List.length d+List.length [c])*8≤70368744177664))).bind fun _=>(Z100.l0 R N n a b (w64 (c+1)) (d++[c]))) else(Z100.l0 R N n a b (w64 (c+1)) d))) else some ⟨o_Z100,(d,())⟩):=(hw _ _).trans (by kernel_rfl)
theorem Z100.ev(R:Run)(N:Nat)(a0:(vK×Unit))(a1:Int):qlw E R sg_Z100 pol_Z100 F_Z100 N [⟨(.ptr yC),a0⟩,⟨yI,a1⟩]=(Z100.l0 R N N a0 a1 (0:Int) ([]:List Int)):=by kernel_rfl
def Z111.l0(R:Run)(N n:Nat)(a b:List Int)(e f:Int):Option Dv:=R.w (some ⟨(V.dead::(.c (.d yL a)::(zd 5 (.c (.d yL b)::(.c (.d yI e)::(.c (.d yI f)::(zd 19 []))))))),(zo 32 [])⟩) fun st=>lC R pol_Z111 4 N [1,1,1,0,1,0,0] F_Z111 n st (kB R pol_Z111 0 (kS R pol_Z111 7 N [1,1,1,1] F_Z111 (qlU E sg_Z111 F_Z111)))
theorem Z111.l0_succ(R:Run)(hw:R.ok)(N n:Nat)(a b:List Int)(c d:Int):Z111.l0 R N (n+1) a b c d=(bif (decide (d<(List.length b:Int))) then((idx? b d).bind fun y6=>((idx? a (y6,()).1).bind fun y7=>(Z111.l0 R N n a b (w64 (c+(y7,()).1)) (w64 (d+1))))) else some ⟨o_Z111,(c,())⟩):=(hw _ _).trans (by kernel_rfl)
theorem Z111.ev(R:Run)(N:Nat)(a0:(vK×Unit))(a1:List Int)(a2:Int):qlw E R sg_Z111 pol_Z111 F_Z111 N [⟨(.ptr yC),a0⟩,⟨yL,a1⟩,⟨yI,a2⟩]=((qjK R n_Z100 o_Z100 [⟨(.ptr yC),a0⟩,⟨yI,a2⟩]).bind fun r1=>(Z111.l0 R N N a1 r1.1 (0:Int) (0:Int))):=by kernel_rfl
def Z110.l0(R:Run)(N n:Nat)(a:(vK×Unit))(b:List Int)(e:Int):Option Dv:=R.w (some ⟨(.c (.ip yC a 0)::(.c (.d yL b)::(zd 3 (.c (.d yI e)::(zd 17 []))))),(zo 25 [])⟩) fun st=>lC R pol_Z110 4 N [1,1,0,1,0,0] F_Z110 n st (kB R pol_Z110 0 (kS R pol_Z110 8 N [1,1,1] F_Z110 (qlU E sg_Z110 F_Z110)))
theorem Z110.l0_succ(R:Run)(hw:R.ok)(N n:Nat)(a:(vK×Unit))(b:List Int)(c:Int):Z110.l0 R N (n+1) a b c=(bif (decide (c≤(3:Int))) then((qjK R n_Z111 o_Z111 [⟨(.ptr yC),a⟩,⟨yL,b⟩,⟨yI,c⟩]).bind fun r5=>(bif (decide (r5.1>(32:Int))) then some ⟨o_Z110,(false,())⟩ else(Z110.l0 R N n a b (w64 (c+1))))) else some ⟨o_Z110,(true,())⟩):=(hw _ _).trans (by kernel_rfl)
theorem Z110.ev(R:Run)(N:Nat)(a0:(vK×Unit))(a1:List Int):qlw E R sg_Z110 pol_Z110 F_Z110 N [⟨(.ptr yC),a0⟩,⟨yL,a1⟩]=((qjK R n_Z93 o_Z93 [⟨yL,a1⟩,⟨yI,(List.length a0.1:Int)⟩,⟨yI,(4:Int)⟩]).bind fun r1=>(bif (!r1.1) then some ⟨o_Z110,(false,())⟩ else(Z110.l0 R N N a0 a1 (0:Int)))):=by kernel_rfl
theorem Z106.ev(R:Run)(N:Nat)(a0:(vK×Unit)):qlw E R sg_Z106 pol_Z106 F_Z106 N [⟨(.ptr yC),a0⟩]=((qjK R n_Z109 o_Z109 [⟨(.ptr yC),a0⟩,⟨yI,(List.length a0.1:Int)⟩,⟨yI,(0:Int)⟩]).bind fun r1=>some ⟨o_Z106,(r1.1,())⟩):=by kernel_rfl
def Z108.j3(R:Run)(N a b:Nat)(e:vS)(f g:Int)(h:Bool):Option Dv:=R.w (some ⟨(.c (.ip yS e 0)::(V.dead::(V.dead::(.c (.d yI f)::(.c (.d yI g)::(zd 68 (.c (.d .bool h)::(zd 18 [])))))))),(zo 93 [])⟩) fun st=>eC R pol_Z108 N [1,1,0,1,0,0,1,0,0,1,0,0,0,1] F_Z108 st (kS R pol_Z108 9 N [1,1,0,1,0,0,1,0,0,1,0,0,1] F_Z108 (kL R pol_Z108 7 N [1,1,0,1,0,0,1,0,0,1,0,0] F_Z108 b (kB R pol_Z108 2 (kB R pol_Z108 1 (kS R pol_Z108 5 N [1,1,0,1,0,0,1,1] F_Z108 (kL R pol_Z108 4 N [1,1,0,1,0,0] F_Z108 a (kB R pol_Z108 0 (q0_2 R N (qlU E sg_Z108 F_Z108)))))))))
def Z108.l2(R:Run)(N a n:Nat)(b:vS)(e f:Int):Option Dv:=R.w (some ⟨(.c (.ip yS b 0)::(V.dead::(V.dead::(.c (.d yI e)::(.c (.d yI f)::(zd 87 [])))))),(zo 93 [])⟩) fun st=>lC R pol_Z108 7 N [1,1,0,1,0,0,1,0,0,1,0,0] F_Z108 n st (kB R pol_Z108 2 (kB R pol_Z108 1 (kS R pol_Z108 5 N [1,1,0,1,0,0,1,1] F_Z108 (kL R pol_Z108 4 N [1,1,0,1,0,0] F_Z108 a (kB R pol_Z108 0 (q0_2 R N (qlU E sg_Z108 F_Z108)))))))
def Z108.l1(R:Run)(N n:Nat)(a:vS)(b:Int):Option Dv:=R.w (some ⟨(.c (.ip yS a 0)::(V.dead::(V.dead::(.c (.d yI b)::(zd 88 []))))),(zo 93 [])⟩) fun st=>lC R pol_Z108 4 N [1,1,0,1,0,0] F_Z108 n st (kB R pol_Z108 0 (q0_2 R N (qlU E sg_Z108 F_Z108)))
def Z108.j0(R:Run)(N:Nat)(a:vS)(b:Bool):Option Dv:=R.w (some ⟨(.c (.ip yS a 0)::(zd 39 (.c (.d .bool b)::(zd 51 [])))),(zo 93 [])⟩) fun st=>eC R pol_Z108 N [1,0,1] F_Z108 st (kS R pol_Z108 3 N [1,1] F_Z108 (qlU E sg_Z108 F_Z108))
theorem Z108.j3_eq(R:Run)(hw:R.ok)(N a b:Nat)(c:vS)(d e:Int)(f:Bool):Z108.j3 R N a b c d e f=(bif f then((qjK R n_Z109 o_Z109 [⟨(.ptr yC),(c.1,())⟩,⟨yI,d⟩,⟨yI,e⟩]).bind fun r15=>((idx? c.2.2.2.1 r15.1).bind fun y16=>((qjK R n_Z107 o_Z107 [⟨(.ptr yS),c⟩,⟨yI,d⟩,⟨yI,e⟩,⟨(.ptr yM),y16⟩]).bind fun r17=>(bif (!r17.1) then some ⟨o_Z108,(false,())⟩ else(Z108.l2 R N a b c d (w64 (e+1))))))) else(Z108.l1 R N a c (w64 (d+1)))):=(hw _ _).trans (by kernel_rfl)
theorem Z108.l2_succ(R:Run)(hw:R.ok)(N a n:Nat)(b:vS)(c d:Int):Z108.l2 R N a (n+1) b c d=((idx? b.1 c).bind fun y9=>(bif (decide (d<(List.length (y9,()).1:Int))) then((idx? b.1 c).bind fun y10=>(Z108.j3 R N a n b c d (decide ((List.length (y10,()).1:Int)>(1:Int))))) else(Z108.j3 R N a n b c d false))):=(hw _ _).trans (by kernel_rfl)
theorem Z108.l1_succ(R:Run)(hw:R.ok)(N n:Nat)(a:vS)(b:Int):Z108.l1 R N (n+1) a b=(bif (decide (b<(List.length a.1:Int))) then(Z108.l2 R N n N a b (0:Int)) else some ⟨o_Z108,(true,())⟩):=(hw _ _).trans (by kernel_rfl)
theorem Z108.j0_eq(R:Run)(hw:R.ok)(N:Nat)(a:vS)(b:Bool):Z108.j0 R N a b=(bif b then some ⟨o_Z108,(false,())⟩ else(Z108.l1 R N N a (0:Int))):=(hw _ _).trans (by kernel_rfl)
theorem Z108.ev(R:Run)(N:Nat)(a0:vS):qlw E R sg_Z108 pol_Z108 F_Z108 N [⟨(.ptr yS),a0⟩]=((qjK R n_Z101 o_Z101 [⟨(.ptr yC),(a0.1,())⟩]).bind fun r1=>(bif (!r1.1) then(Z108.j0 R N a0 true) else((qjK R n_Z84 o_Z84 [⟨yI,a0.2.1⟩]).bind fun r27=>(bif (!r27.1) then(Z108.j0 R N a0 true) else((qjK R n_Z110 o_Z110 [⟨(.ptr yC),(a0.1,())⟩,⟨yL,a0.2.2.1⟩]).bind fun r30=>(bif (!r30.1) then(Z108.j0 R N a0 true) else((qjK R n_Z106 o_Z106 [⟨(.ptr yC),(a0.1,())⟩]).bind fun r33=>(Z108.j0 R N a0 ((List.length a0.2.2.2.1:Int) != r33.1))))))))):=by kernel_rfl
def Z85.l0(R:Run)(N n:Nat)(a:List Int)(b e:Int):Option Dv:=R.w (some ⟨(.c (.d yL a)::(.c (.d yI b)::(zd 3 (.c (.d yI e)::(zd 12 []))))),(zo 20 [])⟩) fun st=>lC R pol_Z85 2 N [1,0,1,0,0] F_Z85 n st (kB R pol_Z85 0 (kS R pol_Z85 6 N [1,1] F_Z85 (qlU E sg_Z85 F_Z85)))
theorem Z85.l0_succ(R:Run)(hw:R.ok)(N n:Nat)(a:List Int)(b c:Int):Z85.l0 R N (n+1) a b c=(bif (decide (c<(List.length a:Int))) then((idx? a c).bind fun y4=>(bif ((y4,()).1==b) then some ⟨o_Z85,(true,())⟩ else(Z85.l0 R N n a b (w64 (c+1))))) else some ⟨o_Z85,(false,())⟩):=(hw _ _).trans (by kernel_rfl)
theorem Z85.ev(R:Run)(N:Nat)(a0:List Int)(a1:Int):qlw E R sg_Z85 pol_Z85 F_Z85 N [⟨yL,a0⟩,⟨yI,a1⟩]=(Z85.l0 R N N a0 a1 (0:Int)):=by kernel_rfl
def Z102.l0(R:Run)(N n:Nat)(a b:List Int)(e:Int):Option Dv:=R.w (some ⟨(.c (.d yL a)::(.c (.d yL b)::(zd 3 (.c (.d yI e)::(zd 13 []))))),(zo 21 [])⟩) fun st=>lC R pol_Z102 2 N [1,0,1,0,0] F_Z102 n st (kB R pol_Z102 0 (kS R pol_Z102 6 N [1,1] F_Z102 (qlU E sg_Z102 F_Z102)))
theorem Z102.l0_succ(R:Run)(hw:R.ok)(N n:Nat)(a b:List Int)(c:Int):Z102.l0 R N (n+1) a b c=(bif (decide (c<(List.length a:Int))) then((idx? a c).bind fun y4=>((qjK R n_Z85 o_Z85 [⟨yL,b⟩,⟨yI,(y4,()).1⟩]).bind fun r5=>(bif (!r5.1) then some ⟨o_Z102,(false,())⟩ else(Z102.l0 R N n a b (w64 (c+1)))))) else some ⟨o_Z102,(true,())⟩):=(hw _ _).trans (by kernel_rfl)
theorem Z102.ev(R:Run)(N:Nat)(a0 a1:List Int):qlw E R sg_Z102 pol_Z102 F_Z102 N [⟨yL,a0⟩,⟨yL,a1⟩]=(Z102.l0 R N N a0 a1 (0:Int)):=by kernel_rfl
def Z104.l0(R:Run)(N n:Nat)(a:(vK×Unit))(b:List Int)(e:Int)(f:List Int):Option Dv:=R.w (some ⟨(.c (.ip yC a 0)::(.c (.d yL b)::(zd 3 (.c (.arr 7)::(.c (.d yI e)::(zd 24 [])))))),(zo 7 (some (.arr yI f true false false)::(zo 25 [])))⟩) fun st=>lC R pol_Z104 3 N [1,1,0,1,0,0] F_Z104 n st (kB R pol_Z104 0 (kS R pol_Z104 7 N [1,1,1] F_Z104 (qlU E sg_Z104 F_Z104)))
theorem Z104.l0_succ(R:Run)(hw:R.ok)(N n:Nat)(a:(vK×Unit))(b:List Int)(c:Int)(d:List Int):Z104.l0 R N (n+1) a b c d=(bif (decide (c<(List.length a.1:Int))) then((idx? a.1 c).bind fun y5=>((qjK R n_Z102 o_Z102 [⟨yL,b⟩,⟨yL,(y5,()).1⟩]).bind fun r6=>(bif r6.1 then((chk (decide ((List.length d+List.length [c])*8≤70368744177664))).bind fun _=>(Z104.l0 R N n a b (w64 (c+1)) (d++[c]))) else(Z104.l0 R N n a b (w64 (c+1)) d)))) else some ⟨o_Z104,(d,())⟩):=(hw _ _).trans (by kernel_rfl)
theorem Z104.ev(R:Run)(N:Nat)(a0:(vK×Unit))(a1:List Int):qlw E R sg_Z104 pol_Z104 F_Z104 N [⟨(.ptr yC),a0⟩,⟨yL,a1⟩]=(Z104.l0 R N N a0 a1 (0:Int) ([]:List Int)):=by kernel_rfl
def Z98.l0(R:Run)(N n:Nat)(a:(vK×Unit))(b:Int)(e:List Int):Option Dv:=R.w (some ⟨(.c (.ip yC a 0)::(V.dead::(V.dead::(.c (.arr 5)::(.c (.d yI b)::(zd 26 [])))))),(zo 5 (some (.arr yI e true false false)::(zo 26 [])))⟩) fun st=>lC R pol_Z98 3 N [1,1,0,1,0,0] F_Z98 n st (kB R pol_Z98 0 (kS R pol_Z98 7 N [1,1,1] F_Z98 (qlU E sg_Z98 F_Z98)))
theorem Z98.l0_succ(R:Run)(hw:R.ok)(N n:Nat)(a:(vK×Unit))(b:Int)(c:List Int):Z98.l0 R N (n+1) a b c=(bif (decide (b<(List.length a.1:Int))) then((idx? a.1 b).bind fun y4=>((qjK R n_Z104 o_Z104 [⟨(.ptr yC),a⟩,⟨yL,(y4,()).1⟩]).bind fun r5=>(bif ((List.length r5.1:Int)==(1:Int)) then((chk (decide ((List.length c+List.length [b])*8≤70368744177664))).bind fun _=>(Z98.l0 R N n a (w64 (b+1)) (c++[b]))) else(Z98.l0 R N n a (w64 (b+1)) c)))) else some ⟨o_Z98,(c,())⟩):=(hw _ _).trans (by kernel_rfl)
theorem Z98.ev(R:Run)(N:Nat)(a0:(vK×Unit)):qlw E R sg_Z98 pol_Z98 F_Z98 N [⟨(.ptr yC),a0⟩]=(Z98.l0 R N N a0 (0:Int) ([]:List Int)):=by kernel_rfl
def Z90.j1(R:Run)(N a:Nat)(b e f:Int)(g:List Int):Option Dv:=R.w (some ⟨(.c (.d yI b)::(V.dead::(V.dead::(.c (.arr 10)::(.c (.d yI e)::(.c (.d yI f)::(zd 44 []))))))),(zo 10 (some (.arr (.int .u8) g true false false)::(zo 40 [])))⟩) fun st=>eC R pol_Z90 N [1,1,1,0,1,0,0,1,0,0,1,1] F_Z90 st (kB R pol_Z90 1 (kS R pol_Z90 6 N [1,1,1,0,1,0,0,1,1] F_Z90 (kL R pol_Z90 5 N [1,1,1,0,1,0,0] F_Z90 a (kB R pol_Z90 0 (kS R pol_Z90 11 N [1,1,1,1] F_Z90 (qlU E sg_Z90 F_Z90))))))
def Z90.l3(R:Run)(N n:Nat)(a:Int)(b e:List Int):Option Dv:=R.w (some ⟨(zd 3 (.c (.arr 10)::(V.dead::(V.dead::(.c (.arr 33)::(.c (.d yI a)::(zd 42 []))))))),(zo 10 (some (.arr (.int .u8) b true false false)::(zo 22 (some (.arr (.int .u8) e true false false)::(zo 17 [])))))⟩) fun st=>lC R pol_Z90 15 N [1,1,1,1,1,1,0,1,0,0] F_Z90 n st (kB R pol_Z90 2 (kS R pol_Z90 18 N [1,1,1,1,1,1,1] F_Z90 (qlU E sg_Z90 F_Z90)))
def Z90.j2(R:Run)(N:Nat)(a:List Int):Option Dv:=R.w (some ⟨(zd 3 (.c (.arr 10)::(zd 46 []))),(zo 10 (some (.arr (.int .u8) a true false false)::(zo 40 [])))⟩) fun st=>eC R pol_Z90 N [1,1,1,1,1] F_Z90 st (qlU E sg_Z90 F_Z90)
def Z90.l0(R:Run)(N n:Nat)(a b:Int)(e:List Int):Option Dv:=R.w (some ⟨(.c (.d yI a)::(V.dead::(V.dead::(.c (.arr 10)::(.c (.d yI b)::(zd 45 [])))))),(zo 10 (some (.arr (.int .u8) e true false false)::(zo 40 [])))⟩) fun st=>lC R pol_Z90 5 N [1,1,1,0,1,0,0] F_Z90 n st (kB R pol_Z90 0 (kS R pol_Z90 11 N [1,1,1,1] F_Z90 (qlU E sg_Z90 F_Z90)))
theorem Z90.j1_eq(R:Run)(hw:R.ok)(N a:Nat)(b c d:Int)(e:List Int):Z90.j1 R N a b c d e=((chk (decide ((List.length e+List.length [(IntKind.wrap .u8 ((w64 ((48:Int)+d))))])*1≤70368744177664))).bind fun _=>(Z90.l0 R N a b (w64 (Int.tdiv c (10:Int))) (e++[(IntKind.wrap .u8 ((w64 ((48:Int)+d))))]))):=(hw _ _).trans (by kernel_rfl)
theorem Z90.l3_succ(R:Run)(hw:R.ok)(N n:Nat)(a:Int)(b c:List Int):Z90.l3 R N (n+1) a b c=(bif (decide (a≥(0:Int))) then((chk (decide (0≤a)&&decide (a<(List.length b:Int)))).bind fun _=>(Option.bind (b)[(Int.toNat a)]? fun y19=>((chk (decide ((List.length c+List.length [y19])*1≤70368744177664))).bind fun _=>(Z90.l3 R N n (w64 (a-1)) b (c++[y19]))))) else some ⟨o_Z90,((ByteArray.mk (List.toArray (List.map (fun n=>UInt8.ofNat (Int.toNat n)) c))),())⟩):=(hw _ _).trans (by kernel_rfl)
theorem Z90.j2_eq(R:Run)(hw:R.ok)(N:Nat)(a:List Int):Z90.j2 R N a=(Z90.l3 R N N (w64 ((List.length a:Int)-(1:Int))) a ([]:List Int)):=(hw _ _).trans (by kernel_rfl)
theorem Z90.l0_succ(R:Run)(hw:R.ok)(N n:Nat)(a b:Int)(c:List Int):Z90.l0 R N (n+1) a b c=(bif (b != (0:Int)) then(bif (decide ((Int.tmod b (10:Int))<(0:Int))) then(Z90.j1 R N n a b (w64 (0-(Int.tmod b (10:Int)))) c) else(Z90.j1 R N n a b (Int.tmod b (10:Int)) c)) else(bif (decide (a<(0:Int))) then((chk (decide ((List.length c+List.length [(45:Int)])*1≤70368744177664))).bind fun _=>(Z90.j2 R N (c++[(45:Int)]))) else(Z90.j2 R N c))):=(hw _ _).trans (by kernel_rfl)
theorem Z90.ev(R:Run)(N:Nat)(a0:Int):qlw E R sg_Z90 pol_Z90 F_Z90 N [⟨yI,a0⟩]=(bif (a0==(0:Int)) then some ⟨o_Z90,((ByteArray.mk #[48]),())⟩ else(Z90.l0 R N N a0 a0 ([]:List Int))):=by kernel_rfl
def Z91.j1(R:Run)(N a:Nat)(b:List Int)(e:ByteArray)(f:Int):Option Dv:=R.w (some ⟨(.c (.d yL b)::(V.dead::(V.dead::(.c (.d .str e)::(.c (.d yI f)::(zd 21 [])))))),(zo 27 [])⟩) fun st=>eC R pol_Z91 N [1,1,1,0,1,0,0,1,0,0,1] F_Z91 st (kB R pol_Z91 1 (kS R pol_Z91 6 N [1,1,1,0,1,0,0,1,1] F_Z91 (kL R pol_Z91 5 N [1,1,1,0,1,0,0] F_Z91 a (kB R pol_Z91 0 (kS R pol_Z91 10 N [1,1,1,1] F_Z91 (qlU E sg_Z91 F_Z91))))))
def Z91.l0(R:Run)(N n:Nat)(a:List Int)(b:ByteArray)(e:Int):Option Dv:=R.w (some ⟨(.c (.d yL a)::(V.dead::(V.dead::(.c (.d .str b)::(.c (.d yI e)::(zd 21 [])))))),(zo 27 [])⟩) fun st=>lC R pol_Z91 5 N [1,1,1,0,1,0,0] F_Z91 n st (kB R pol_Z91 0 (kS R pol_Z91 10 N [1,1,1,1] F_Z91 (qlU E sg_Z91 F_Z91)))
theorem Z91.j1_eq(R:Run)(hw:R.ok)(N a:Nat)(b:List Int)(c:ByteArray)(d:Int):Z91.j1 R N a b c d=((idx? b d).bind fun y7=>((qjK R n_Z90 o_Z90 [⟨yI,(y7,()).1⟩]).bind fun r8=>((chk (decide (ByteArray.size c+ByteArray.size r8.1≤70368744177664))).bind fun _=>(Z91.l0 R N a b (c++r8.1) (w64 (d+1)))))):=(hw _ _).trans (by kernel_rfl)
theorem Z91.l0_succ(R:Run)(hw:R.ok)(N n:Nat)(a:List Int)(b:ByteArray)(c:Int):Z91.l0 R N (n+1) a b c=(bif (decide (c<(List.length a:Int))) then(bif (decide (c>(0:Int))) then((chk (decide (ByteArray.size b+ByteArray.size (ByteArray.mk #[44])≤70368744177664))).bind fun _=>(Z91.j1 R N n a (b++(ByteArray.mk #[44])) c)) else(Z91.j1 R N n a b c)) else some ⟨o_Z91,(b,())⟩):=(hw _ _).trans (by kernel_rfl)
theorem Z91.ev(R:Run)(N:Nat)(a0:List Int):qlw E R sg_Z91 pol_Z91 F_Z91 N [⟨yL,a0⟩]=(bif ((List.length a0:Int)==(0:Int)) then some ⟨o_Z91,((ByteArray.mk #[45]),())⟩ else(Z91.l0 R N N a0 (ByteArray.mk #[]) (0:Int))):=by kernel_rfl
def Z105.j1(R:Run)(N a:Nat)(b:(vK×Unit))(e:List Int)(f:ByteArray)(g:Int):Option Dv:=R.w (some ⟨(.c (.ip yC b 0)::(V.dead::(V.dead::(.c (.d yL e)::(.c (.d .str f)::(.c (.d yI g)::(zd 28 []))))))),(zo 35 [])⟩) fun st=>eC R pol_Z105 N [1,1,1,0,1,0,0,1,0,0,1] F_Z105 st (kB R pol_Z105 1 (kS R pol_Z105 5 N [1,1,1,0,1,0,0,1,1] F_Z105 (kL R pol_Z105 4 N [1,1,1,0,1,0,0] F_Z105 a (kB R pol_Z105 0 (kS R pol_Z105 9 N [1,1,1,1] F_Z105 (qlU E sg_Z105 F_Z105))))))
def Z105.l0(R:Run)(N n:Nat)(a:(vK×Unit))(b:List Int)(e:ByteArray)(f:Int):Option Dv:=R.w (some ⟨(.c (.ip yC a 0)::(V.dead::(V.dead::(.c (.d yL b)::(.c (.d .str e)::(.c (.d yI f)::(zd 28 []))))))),(zo 35 [])⟩) fun st=>lC R pol_Z105 4 N [1,1,1,0,1,0,0] F_Z105 n st (kB R pol_Z105 0 (kS R pol_Z105 9 N [1,1,1,1] F_Z105 (qlU E sg_Z105 F_Z105)))
theorem Z105.j1_eq(R:Run)(hw:R.ok)(N a:Nat)(b:(vK×Unit))(c:List Int)(d:ByteArray)(e:Int):Z105.j1 R N a b c d e=((idx? c e).bind fun y10=>((idx? b.1 (y10,()).1).bind fun y11=>((qjK R n_Z91 o_Z91 [⟨yL,(y11,()).1⟩]).bind fun r12=>((chk (decide (ByteArray.size d+ByteArray.size r12.1≤70368744177664))).bind fun _=>(Z105.l0 R N a b c (d++r12.1) (w64 (e+1))))))):=(hw _ _).trans (by kernel_rfl)
theorem Z105.l0_succ(R:Run)(hw:R.ok)(N n:Nat)(a:(vK×Unit))(b:List Int)(c:ByteArray)(d:Int):Z105.l0 R N (n+1) a b c d=(bif (decide (d<(List.length b:Int))) then(bif (decide (d>(0:Int))) then((chk (decide (ByteArray.size c+ByteArray.size (ByteArray.mk #[47])≤70368744177664))).bind fun _=>(Z105.j1 R N n a b (c++(ByteArray.mk #[47])) d)) else(Z105.j1 R N n a b c d)) else(bif (ByteArray.toList c==ByteArray.toList (ByteArray.mk #[])) then some ⟨o_Z105,((ByteArray.mk #[45]),())⟩ else some ⟨o_Z105,(c,())⟩)):=(hw _ _).trans (by kernel_rfl)
theorem Z105.ev(R:Run)(N:Nat)(a0:(vK×Unit)):qlw E R sg_Z105 pol_Z105 F_Z105 N [⟨(.ptr yC),a0⟩]=((qjK R n_Z98 o_Z98 [⟨(.ptr yC),a0⟩]).bind fun r1=>(Z105.l0 R N N a0 r1.1 (ByteArray.mk #[]) (0:Int))):=by kernel_rfl
def Z112.l0(R:Run)(N n:Nat)(a:vS)(b:ByteArray)(e:Int):Option Dv:=R.w (some ⟨(.c (.ip yS a 0)::(V.dead::(V.dead::(.c (.d .str b)::(.c (.d yI e)::(zd 40 [])))))),(zo 46 [])⟩) fun st=>lC R pol_Z112 3 N [1,1,0,1,0,0] F_Z112 n st (kB R pol_Z112 0 (kS R pol_Z112 6 N [1,1,1] F_Z112 (qlU E sg_Z112 F_Z112)))
theorem Z112.l0_succ(R:Run)(hw:R.ok)(N n:Nat)(a:vS)(b:ByteArray)(c:Int):Z112.l0 R N (n+1) a b c=(bif (decide (c<(List.length a.2.2.2.1:Int))) then((idx? a.2.2.2.1 c).bind fun y7=>((qjK R n_Z91 o_Z91 [⟨yL,y7.2.2.2.1⟩]).bind fun r8=>((chk (decide (ByteArray.size (ByteArray.mk #[59])+ByteArray.size r8.1≤70368744177664))).bind fun _=>((chk (decide (ByteArray.size b+ByteArray.size ((ByteArray.mk #[59])++r8.1)≤70368744177664))).bind fun _=>(Z112.l0 R N n a (b++((ByteArray.mk #[59])++r8.1)) (w64 (c+1))))))) else some ⟨o_Z112,(b,())⟩):=(hw _ _).trans (by kernel_rfl)
theorem Z112.ev(R:Run)(N:Nat)(a0:vS):qlw E R sg_Z112 pol_Z112 F_Z112 N [⟨(.ptr yS),a0⟩]=((qjK R n_Z105 o_Z105 [⟨(.ptr yC),(a0.1,())⟩]).bind fun r1=>((chk (decide (ByteArray.size r1.1+ByteArray.size (ByteArray.mk #[59])≤70368744177664))).bind fun _=>((qjK R n_Z90 o_Z90 [⟨yI,a0.2.1⟩]).bind fun r2=>((chk (decide (ByteArray.size (r1.1++(ByteArray.mk #[59]))+ByteArray.size r2.1≤70368744177664))).bind fun _=>((chk (decide (ByteArray.size ((r1.1++(ByteArray.mk #[59]))++r2.1)+ByteArray.size (ByteArray.mk #[59])≤70368744177664))).bind fun _=>((qjK R n_Z91 o_Z91 [⟨yL,a0.2.2.1⟩]).bind fun r3=>((chk (decide (ByteArray.size (((r1.1++(ByteArray.mk #[59]))++r2.1)++(ByteArray.mk #[59]))+ByteArray.size r3.1≤70368744177664))).bind fun _=>(Z112.l0 R N N a0 ((((r1.1++(ByteArray.mk #[59]))++r2.1)++(ByteArray.mk #[59]))++r3.1) (0:Int))))))))):=by kernel_rfl
theorem Z83.ev(R:Run)(N:Nat)(a0:vK)(a1:Int)(a2:List Int)(a3:vN):qlw E R sg_Z83 pol_Z83 F_Z83 N [⟨yK,a0⟩,⟨yI,a1⟩,⟨yL,a2⟩,⟨yN,a3⟩]=((qjK R n_Z108 o_Z108 [⟨(.ptr yS),(a0,a1,a2,a3,())⟩]).bind fun r1=>(bif (!r1.1) then some ⟨o_Z83,((ByteArray.mk #[]),())⟩ else((qjK R n_Z112 o_Z112 [⟨(.ptr yS),(a0,a1,a2,a3,())⟩]).bind fun r2=>some ⟨o_Z83,(r2.1,())⟩))):=by kernel_rfl
def Z31.l0(R:Run)(N n:Nat)(a:List Int)(b:Int):Option Dv:=R.w (some ⟨(.c (.d yL a)::(V.dead::(V.dead::(.c (.d yI b)::(zd 16 []))))),(zo 21 [])⟩) fun st=>lC R pol_Z31 2 N [1,0,1,0,0] F_Z31 n st (kB R pol_Z31 0 (kS R pol_Z31 6 N [1,1] F_Z31 (qlU E sg_Z31 F_Z31)))
theorem Z31.l0_succ(R:Run)(hw:R.ok)(N n:Nat)(a:List Int)(b:Int):Z31.l0 R N (n+1) a b=(bif (decide (b<(List.length a:Int))) then((idx? a (w64 (b-1))).bind fun y3=>((idx? a b).bind fun y4=>(bif (decide ((y3,()).1≥(y4,()).1)) then some ⟨o_Z31,(false,())⟩ else(Z31.l0 R N n a (w64 (b+1)))))) else some ⟨o_Z31,(true,())⟩):=(hw _ _).trans (by kernel_rfl)
theorem Z31.ev(R:Run)(N:Nat)(a0:List Int):qlw E R sg_Z31 pol_Z31 F_Z31 N [⟨yL,a0⟩]=(Z31.l0 R N N a0 (1:Int)):=by kernel_rfl
theorem Z40.ev(R:Run)(N:Nat)(a0 a1 a2:Int):qlw E R sg_Z40 pol_Z40 F_Z40 N [⟨yI,a0⟩,⟨yI,a1⟩,⟨yI,a2⟩]=(bif (decide (a0≥a1)) then some ⟨o_Z40,((decide (a0≤a2)),())⟩ else some ⟨o_Z40,(false,())⟩):=by kernel_rfl
theorem Z34.ev(R:Run)(N:Nat)(a0:Int):qlw E R sg_Z34 pol_Z34 F_Z34 N [⟨yI,a0⟩]=((qjK R n_Z40 o_Z40 [⟨yI,a0⟩,⟨yI,(0:Int)⟩,⟨yI,(9:Int)⟩]).bind fun r1=>some ⟨o_Z34,(r1.1,())⟩):=by kernel_rfl
theorem Z16.ev(R:Run)(N:Nat)(a0:Int):qlw E R sg_Z16 pol_Z16 F_Z16 N [⟨yI,a0⟩]=((qjK R n_Z34 o_Z34 [⟨yI,a0⟩]).bind fun r1=>some ⟨o_Z16,((!r1.1),())⟩):=by kernel_rfl
def Z78.l0(R:Run)(N n:Nat)(a:List Int)(b e:Int):Option Dv:=R.w (some ⟨(.c (.d yL a)::(.c (.d (.fn n_Z16 .nil) ())::(zd 5 (.c (.d yI b)::(.c (.d yI e)::(zd 10 [])))))),(zo 21 [])⟩) fun st=>lC R pol_Z76 2 N [1,0,1,0,0] F_Z76 n st (kB R pol_Z76 0 (kS R pol_Z76 7 N [1,1] F_Z76 (qlU E sg_Z76 F_Z76)))
theorem Z78.l0_succ(R:Run)(hw:R.ok)(N n:Nat)(a:List Int)(b c:Int):Z78.l0 R N (n+1) a b c=(bif (decide (c<b)) then((idx? a c).bind fun y4=>((qjK R n_Z16 o_Z16 [⟨yI,(y4,()).1⟩]).bind fun r5=>(bif r5.1 then some ⟨o_Z76,(c,())⟩ else(Z78.l0 R N n a b (w64 (c+1)))))) else some ⟨o_Z76,((-1:Int),())⟩):=(hw _ _).trans (by kernel_rfl)
theorem Z78.ev(R:Run)(N:Nat)(a0:List Int):qlw E R sg_Z76 pol_Z76 F_Z76 N [⟨yL,a0⟩,⟨(.fn n_Z16 .nil),()⟩]=(Z78.l0 R N N a0 (List.length a0:Int) (0:Int)):=by kernel_rfl
theorem Z68.ev(R:Run)(N:Nat)(a0:List Int):qlw E R sg_Z66 pol_Z66 F_Z66 N [⟨yL,a0⟩,⟨(.fn n_Z16 .nil),()⟩]=((qjK R n_Z76 o_Z76 [⟨yL,a0⟩,⟨(.fn n_Z16 .nil),()⟩]).bind fun r1=>some ⟨o_Z66,((decide (r1.1≥(0:Int))),())⟩):=by kernel_rfl
theorem Z15.ev(R:Run)(N:Nat)(a0:List Int):qlw E R sg_Z15 pol_Z15 F_Z15 N [⟨yL,a0⟩]=(bif (decide ((List.length a0:Int)≥(1:Int))) then(bif (decide ((List.length a0:Int)≤(4:Int))) then((qjK R n_Z31 o_Z31 [⟨yL,a0⟩]).bind fun r1=>(bif r1.1 then((qjK R n_Z66 o_Z66 [⟨yL,a0⟩,⟨(.fn n_Z16 .nil),()⟩]).bind fun r2=>some ⟨o_Z15,((!r2.1),())⟩) else some ⟨o_Z15,(false,())⟩)) else some ⟨o_Z15,(false,())⟩) else some ⟨o_Z15,(false,())⟩):=by kernel_rfl
theorem Z3.ev(R:Run)(N:Nat)(a0:Int):qlw E R sg_Z3 pol_Z3 F_Z3 N [⟨yI,a0⟩]=some ⟨o_Z3,((a0 != a0),())⟩:=by kernel_rfl
theorem Z0.ev(R:Run)(N:Nat)(a0 a1:Int):qlw E R sg_Z0 pol_Z0 F_Z0 N [⟨yI,a0⟩,⟨yI,a1⟩]=((qjK R n_Z3 o_Z3 [⟨yI,a0⟩]).bind fun r1=>((qjK R n_Z3 o_Z3 [⟨yI,a1⟩]).bind fun r2=>(bif r1.1 then(bif r2.1 then some ⟨o_Z0,((0:Int),())⟩ else some ⟨o_Z0,((-1:Int),())⟩) else(bif r2.1 then some ⟨o_Z0,((1:Int),())⟩ else(bif (decide (a0<a1)) then some ⟨o_Z0,((-1:Int),())⟩ else(bif (decide (a0>a1)) then some ⟨o_Z0,((1:Int),())⟩ else some ⟨o_Z0,((0:Int),())⟩)))))):=by kernel_rfl
theorem Z4.ev(R:Run)(N:Nat)(a0:Int):qlw E R sg_Z4 pol_Z4 F_Z4 N [⟨yI,a0⟩]=some ⟨o_Z4,((a0 != a0),())⟩:=by kernel_rfl
theorem Z1.ev(R:Run)(N:Nat)(a0 a1:Int):qlw E R sg_Z1 pol_Z1 F_Z1 N [⟨yI,a0⟩,⟨yI,a1⟩]=((qjK R n_Z4 o_Z4 [⟨yI,a0⟩]).bind fun r1=>((qjK R n_Z4 o_Z4 [⟨yI,a1⟩]).bind fun r2=>(bif r1.1 then(bif r2.1 then some ⟨o_Z1,((0:Int),())⟩ else some ⟨o_Z1,((-1:Int),())⟩) else(bif r2.1 then some ⟨o_Z1,((1:Int),())⟩ else(bif (decide (a0<a1)) then some ⟨o_Z1,((-1:Int),())⟩ else(bif (decide (a0>a1)) then some ⟨o_Z1,((1:Int),())⟩ else some ⟨o_Z1,((0:Int),())⟩)))))):=by kernel_rfl
def Z62.l0(R:Run)(N n:Nat)(a b e:List Int)(f g:Int):Option Dv:=R.w (some ⟨(.c (.d yL a)::(.c (.d yL b)::(zd 7 (.c (.d yL e)::(.c (.d yI f)::(.c (.d yI g)::(zd 24 []))))))),(zo 38 [])⟩) fun st=>lC R pol_Z62 2 N [1,0,1,0,0] F_Z62 n st (kB R pol_Z62 0 (kS R pol_Z62 11 N [1,1] F_Z62 (qlU E sg_Z62 F_Z62)))
theorem Z62.l0_succ(R:Run)(hw:R.ok)(N n:Nat)(a b c:List Int)(d e:Int):Z62.l0 R N (n+1) a b c d e=(bif (decide (e<d)) then((idx? c e).bind fun y6=>(bif (decide (e≥(List.length b:Int))) then some ⟨o_Z62,((1:Int),())⟩ else((idx? b e).bind fun y7=>((qjK R n_Z1 o_Z1 [⟨yI,(y6,()).1⟩,⟨yI,(y7,()).1⟩]).bind fun r8=>(bif (r8.1 != (0:Int)) then some ⟨o_Z62,(r8.1,())⟩ else(Z62.l0 R N n a b c d (w64 (e+1)))))))) else(bif (decide ((List.length a:Int)<(List.length b:Int))) then some ⟨o_Z62,((-1:Int),())⟩ else some ⟨o_Z62,((0:Int),())⟩)):=(hw _ _).trans (by kernel_rfl)
theorem Z62.ev(R:Run)(N:Nat)(a0 a1:List Int):qlw E R sg_Z62 pol_Z62 F_Z62 N [⟨yL,a0⟩,⟨yL,a1⟩]=(Z62.l0 R N N a0 a1 a0 (List.length a0:Int) (0:Int)):=by kernel_rfl
def Z2.l0(R:Run)(N n:Nat)(a:Int)(b:List Int)(e f:Int):Option Dv:=R.w (some ⟨(zd 3 (.c (.d yI a)::(V.dead::(V.dead::(.c (.d yL b)::(.c (.d yI e)::(.c (.d yI f)::(zd 9 [])))))))),(zo 19 [])⟩) fun st=>lC R pol_Z2 3 N [1,1,0,1,0,0] F_Z2 n st (kB R pol_Z2 0 (kS R pol_Z2 8 N [1,1,1] F_Z2 (qlU E sg_Z2 F_Z2)))
theorem Z2.l0_succ(R:Run)(hw:R.ok)(N n:Nat)(a:Int)(b:List Int)(c d:Int):Z2.l0 R N (n+1) a b c d=(bif (decide (d<c)) then((idx? b d).bind fun y5=>(bif ((y5,()).1 != a) then some ⟨o_Z2,((y5,()).1,())⟩ else(Z2.l0 R N n a b c (w64 (d+1))))) else some ⟨o_Z2,(a,())⟩):=(hw _ _).trans (by kernel_rfl)
theorem Z2.ev(R:Run)(N:Nat)(a0:List Int):qlw E R sg_Z2 pol_Z2 F_Z2 N [⟨yL,a0⟩]=(Z2.l0 R N N (0:Int) a0 (List.length a0:Int) (0:Int)):=by kernel_rfl
theorem Z22.ev(R:Run)(N:Nat)(a0 a1:List Int):qlw E R sg_Z22 pol_Z22 F_Z22 N [⟨yL,a0⟩,⟨yL,a1⟩]=((qjK R n_Z0 o_Z0 [⟨yI,(List.length a0:Int)⟩,⟨yI,(List.length a1:Int)⟩]).bind fun r1=>((qjK R n_Z62 o_Z62 [⟨yL,a0⟩,⟨yL,a1⟩]).bind fun r2=>((qjK R n_Z2 o_Z2 [⟨yL,[r1.1,r2.1]⟩]).bind fun r3=>some ⟨o_Z22,(r3.1,())⟩))):=by kernel_rfl
def Z63.l1(R:Run)(N n:Nat)(a:vK)(b e:Int)(f:List Int):Option Dv:=R.w (some ⟨(zd 6 (.c (.arr 37)::(zd 18 (.c (.d yK a)::(.c (.d yI b)::(.c (.d yI e)::(zd 8 []))))))),(zo 37 (some (.arr yI f true false false)::[]))⟩) fun st=>lC R pol_Z63 11 N [1,1,1,1,0,1,0,0] F_Z63 n st (kB R pol_Z63 2 (kS R pol_Z63 15 N [1,1,1,1,1] F_Z63 (qlU E sg_Z63 F_Z63)))
def Z63.l0(R:Run)(N n:Nat)(a:vK)(b:Int)(e:vK)(f g:Int):Option Dv:=R.w (some ⟨(.c (.d yK a)::(V.dead::(V.dead::(.c (.d yI b)::(zd 5 (.c (.d yK e)::(.c (.d yI f)::(.c (.d yI g)::(zd 24 []))))))))),(zo 38 [])⟩) fun st=>lC R pol_Z63 3 N [1,1,0,1,0,0] F_Z63 n st (kB R pol_Z63 0 (kS R pol_Z63 9 N [1,1,1] F_Z63 (qlU E sg_Z63 F_Z63)))
theorem Z63.l1_succ(R:Run)(hw:R.ok)(N n:Nat)(a:vK)(b c:Int)(d:List Int):Z63.l1 R N (n+1) a b c d=(bif (decide (c<b)) then((idx? a c).bind fun y17=>((chk (decide ((List.length d+List.length (y17,()).1)*8≤70368744177664))).bind fun _=>(Z63.l1 R N n a b (w64 (c+1)) (d++(y17,()).1)))) else some ⟨o_Z63,(d,())⟩):=(hw _ _).trans (by kernel_rfl)
theorem Z63.l0_succ(R:Run)(hw:R.ok)(N n:Nat)(a:vK)(b:Int)(c:vK)(d e:Int):Z63.l0 R N (n+1) a b c d e=(bif (decide (e<d)) then((idx? c e).bind fun y6=>(bif (decide ((w64 (b+(List.length (y6,()).1:Int)))<(0:Int))) then none else(Z63.l0 R N n a (w64 (b+(List.length (y6,()).1:Int))) c d (w64 (e+1))))) else((qjK R n_Z73 o_Z73 [⟨yL,([]:List Int)⟩,⟨yI,b⟩]).bind fun r12=>(Z63.l1 R N N a (List.length a:Int) (0:Int) r12.1))):=(hw _ _).trans (by kernel_rfl)
theorem Z63.ev(R:Run)(N:Nat)(a0:vK):qlw E R sg_Z63 pol_Z63 F_Z63 N [⟨yK,a0⟩]=(Z63.l0 R N N a0 (0:Int) a0 (List.length a0:Int) (0:Int)):=by kernel_rfl
def Z24.l0(R:Run)(N n:Nat)(a:List Int)(b e:Int)(f:vK):Option Dv:=R.w (some ⟨(.c (.d yL a)::(V.dead::(V.dead::(.c (.arr 24)::(V.dead::(V.dead::(.c (.d yI b)::(.c (.d yI e)::(zd 19 []))))))))),(zo 24 (some (.arr yL f true false false)::(zo 4 [])))⟩) fun st=>lC R pol_Z24 3 N [1,1,0,1,0,0] F_Z24 n st (kB R pol_Z24 0 (kS R pol_Z24 8 N [1,1,1] F_Z24 (qlU E sg_Z24 F_Z24)))
theorem Z24.l0_succ(R:Run)(hw:R.ok)(N n:Nat)(a:List Int)(b c:Int)(d:vK):Z24.l0 R N (n+1) a b c d=(bif (decide (c<b)) then(bif (decide ((List.length a:Int)>(1:Int))) then((chk (decide (0≤c)&&decide (c≤(List.length a:Int)))).bind fun _=>((chk (decide (0≤(w64 (c+1)))&&decide ((w64 (c+1))≤(List.length a:Int)))).bind fun _=>((qjK R n_Z63 o_Z63 [⟨yK,[(List.take (Int.toNat c) a),(List.drop (Int.toNat (w64 (c+1))) a)]⟩]).bind fun r5=>((chk (decide ((List.length d+List.length [r5.1])*24≤70368744177664))).bind fun _=>(Z24.l0 R N n a b (w64 (c+1)) (d++[r5.1])))))) else(Z24.l0 R N n a b (w64 (c+1)) d)) else some ⟨o_Z24,(d,())⟩):=(hw _ _).trans (by kernel_rfl)
theorem Z24.ev(R:Run)(N:Nat)(a0:List Int):qlw E R sg_Z24 pol_Z24 F_Z24 N [⟨yL,a0⟩]=(Z24.l0 R N N a0 (List.length a0:Int) (0:Int) ([]:List (List Int))):=by kernel_rfl
def Z61.l0(R:Run)(N n:Nat)(a:vK)(b:List Int)(e f g:Int):Option Dv:=R.w (some ⟨(.c (.d yK a)::(.c (.d yL b)::(.c (.d (.fn n_Z22 .nil) ())::(zd 5 (.c (.d yI e)::(.c (.d yI f)::(.c (.d yI g)::(zd 38 [])))))))),(zo 52 [])⟩) fun st=>lC R pol_Z60 3 N [1,1,1,0,0,0] F_Z60 n st (kB R pol_Z60 0 (kS R pol_Z60 8 N [1,1,1,1] F_Z60 (qlU E sg_Z60 F_Z60)))
theorem Z61.l0_succ(R:Run)(hw:R.ok)(N n:Nat)(a:vK)(b:List Int)(c d e:Int):Z61.l0 R N (n+1) a b c d e=(bif (decide (d<e)) then((chk (decide (0≤(1:Int)))).bind fun _=>((idx? a (w64 ((Int.fdiv (IntKind.wrap .u64 ((w64 (d+e)))) (2 ^ (min (Int.toNat (1:Int)) (IntKind.bits .u64))))))).bind fun y6=>((qjK R n_Z22 o_Z22 [⟨yL,(y6,()).1⟩,⟨yL,b⟩]).bind fun r7=>(bif (decide (r7.1<(0:Int))) then(Z61.l0 R N n a b c (w64 ((w64 ((Int.fdiv (IntKind.wrap .u64 ((w64 (d+e)))) (2 ^ (min (Int.toNat (1:Int)) (IntKind.bits .u64))))))+(1:Int))) e) else(Z61.l0 R N n a b c d (w64 ((Int.fdiv (IntKind.wrap .u64 ((w64 (d+e)))) (2 ^ (min (Int.toNat (1:Int)) (IntKind.bits .u64))))))))))) else(bif (decide (d<c)) then((idx? a d).bind fun y18=>((qjK R n_Z22 o_Z22 [⟨yL,(y18,()).1⟩,⟨yL,b⟩]).bind fun r19=>some ⟨o_Z60,(d,(r19.1==(0:Int)),())⟩)) else some ⟨o_Z60,(d,false,())⟩)):=(hw _ _).trans (by kernel_rfl)
theorem Z61.ev(R:Run)(N:Nat)(a0:vK)(a1:List Int):qlw E R sg_Z60 pol_Z60 F_Z60 N [⟨yK,a0⟩,⟨yL,a1⟩,⟨(.fn n_Z22 .nil),()⟩]=(Z61.l0 R N N a0 a1 (List.length a0:Int) (0:Int) (List.length a0:Int)):=by kernel_rfl
theorem Z26.ev(R:Run)(N:Nat)(a0:vK)(a1:List Int):qlw E R sg_Z26 pol_Z26 F_Z26 N [⟨yK,a0⟩,⟨yL,a1⟩]=((qjK R n_Z60 o_Z60 [⟨yK,a0⟩,⟨yL,a1⟩,⟨(.fn n_Z22 .nil),()⟩]).bind fun r1=>(bif (!r1.2.1) then some ⟨o_Z26,((-1:Int),())⟩ else some ⟨o_Z26,(r1.1,())⟩)):=by kernel_rfl
theorem Z11.ev(R:Run)(N:Nat)(a0:List Int)(a1:(vK×Unit))(a2:(Int×Unit)):qlw E R sg_Z11 pol_Z11 F_Z11 N [⟨yL,a0⟩,⟨(.ptr yC),a1⟩,⟨(.ptr (.cons yI .nil)),a2⟩]=((chk (decide (0≤a2.1)&&decide (a2.1≤(List.length a1.1:Int)))).bind fun _=>((qjK R n_Z26 o_Z26 [⟨yK,(List.take (Int.toNat a2.1) a1.1)⟩,⟨yL,a0⟩]).bind fun r1=>some ⟨o_Z11,((decide (r1.1<(0:Int))),())⟩)):=by kernel_rfl
def Z75.l0(R:Run)(N n:Nat)(a:vK)(b:((vK×Unit)×(Int×Unit)×Unit))(e f:Int):Option Dv:=R.w (some ⟨(.c (.d yK a)::(.c (.d (.fn n_Z11 (.cons (.ptr yC) (.cons (.ptr (.cons yI .nil)) .nil))) b)::(zd 5 (.c (.d yI e)::(.c (.d yI f)::(zd 10 [])))))),(zo 21 [])⟩) fun st=>lC R pol_Z74 2 N [1,0,1,0,0] F_Z74 n st (kB R pol_Z74 0 (kS R pol_Z74 7 N [1,1] F_Z74 (qlU E sg_Z74 F_Z74)))
theorem Z75.l0_succ(R:Run)(hw:R.ok)(N n:Nat)(a:vK)(b:((vK×Unit)×(Int×Unit)×Unit))(c d:Int):Z75.l0 R N (n+1) a b c d=(bif (decide (d<c)) then((idx? a d).bind fun y5=>((qjK R n_Z11 o_Z11 [⟨yL,(y5,()).1⟩,⟨(.ptr yC),b.1⟩,⟨(.ptr (.cons yI .nil)),b.2.1⟩]).bind fun r6=>(bif r6.1 then some ⟨o_Z74,(d,())⟩ else(Z75.l0 R N n a b c (w64 (d+1)))))) else some ⟨o_Z74,((-1:Int),())⟩):=(hw _ _).trans (by kernel_rfl)
theorem Z75.ev(R:Run)(N:Nat)(a0:vK)(a1:((vK×Unit)×(Int×Unit)×Unit)):qlw E R sg_Z74 pol_Z74 F_Z74 N [⟨yK,a0⟩,⟨(.fn n_Z11 (.cons (.ptr yC) (.cons (.ptr (.cons yI .nil)) .nil))),a1⟩]=(Z75.l0 R N N a0 a1 (List.length a0:Int) (0:Int)):=by kernel_rfl
theorem Z65.ev(R:Run)(N:Nat)(a0:vK)(a1:((vK×Unit)×(Int×Unit)×Unit)):qlw E R sg_Z64 pol_Z64 F_Z64 N [⟨yK,a0⟩,⟨(.fn n_Z11 (.cons (.ptr yC) (.cons (.ptr (.cons yI .nil)) .nil))),a1⟩]=((qjK R n_Z74 o_Z74 [⟨yK,a0⟩,⟨(.fn n_Z11 (.cons (.ptr yC) (.cons (.ptr (.cons yI .nil)) .nil))),a1⟩]).bind fun r1=>some ⟨o_Z64,((decide (r1.1≥(0:Int))),())⟩):=by kernel_rfl
def Z10.j1(R:Run)(N a:Nat)(b:List Int)(e:vK)(f g:Int)(h:Bool)(i:vK)(j:Int):Option Dv:=R.w (some ⟨(V.dead::(.c (.box 1 0)::(V.dead::(.c (.box 3 0)::(.c (.d yL b)::(V.dead::(.c (.d yK e)::(.c (.d yI f)::(.c (.d yI g)::(zd 21 (.c (.d .bool h)::(zd 9 [])))))))))))),(none::(some (.box [.d yK i] true false)::(none::(some (.box [.d yI j] false false)::(zo 37 [])))))⟩) fun st=>eC R pol_Z10 N [1,0,1,0,0,1,1,0,0,1,0,1] F_Z10 st (kS R pol_Z10 6 N [1,0,1,0,0,1,1,0,0,1,1] F_Z10 (kB R pol_Z10 1 (kS R pol_Z10 8 N [1,0,1,0,0,1,1,1] F_Z10 (kL R pol_Z10 2 N [1,0,1,0,0] F_Z10 a (kB R pol_Z10 0 (kS R pol_Z10 9 N [1,1] F_Z10 (qlU E sg_Z10 F_Z10)))))))
def Z10.l0(R:Run)(N n:Nat)(a:vK)(b e:Int)(f:vK):Option Dv:=R.w (some ⟨(V.dead::(.c (.box 1 0)::(zd 4 (.c (.d yK a)::(.c (.d yI b)::(.c (.d yI e)::(zd 31 []))))))),(none::(some (.box [.d yK f] true false)::(zo 39 [])))⟩) fun st=>lC R pol_Z10 2 N [1,0,1,0,0] F_Z10 n st (kB R pol_Z10 0 (kS R pol_Z10 9 N [1,1] F_Z10 (qlU E sg_Z10 F_Z10)))
theorem Z10.j1_eq(R:Run)(hw:R.ok)(N a:Nat)(b:List Int)(c:vK)(d e:Int)(f:Bool)(g:vK)(h:Int):Z10.j1 R N a b c d e f g h=(bif f then some ⟨o_Z10,(false,())⟩ else((qjK R n_Z24 o_Z24 [⟨yL,b⟩]).bind fun r14=>((qjK R n_Z64 o_Z64 [⟨yK,r14.1⟩,⟨(.fn n_Z11 (.cons (.ptr yC) (.cons (.ptr (.cons yI .nil)) .nil))),((g,()),(h,()),())⟩]).bind fun r15=>(bif r15.1 then some ⟨o_Z10,(false,())⟩ else(Z10.l0 R N a c d (w64 (e+1)) g))))):=(hw _ _).trans (by kernel_rfl)
theorem Z10.l0_succ(R:Run)(hw:R.ok)(N n:Nat)(a:vK)(b c:Int)(d:vK):Z10.l0 R N (n+1) a b c d=(bif (decide (c<b)) then((idx? a c).bind fun y5=>((qjK R n_Z15 o_Z15 [⟨yL,(y5,()).1⟩]).bind fun r6=>(bif (!r6.1) then(Z10.j1 R N n ((y5,()).1) a b c true d c) else(bif (decide (c>(0:Int))) then((idx? d (w64 (c-1))).bind fun y20=>((qjK R n_Z22 o_Z22 [⟨yL,(y20,()).1⟩,⟨yL,(y5,()).1⟩]).bind fun r21=>(Z10.j1 R N n ((y5,()).1) a b c (decide (r21.1≥(0:Int))) d c))) else(Z10.j1 R N n ((y5,()).1) a b c false d c))))) else some ⟨o_Z10,((decide ((List.length d:Int)≤(48:Int))),())⟩):=(hw _ _).trans (by kernel_rfl)
theorem Z10.ev(R:Run)(N:Nat)(a0:vK):qlw E R sg_Z10 pol_Z10 F_Z10 N [⟨yK,a0⟩]=(Z10.l0 R N N a0 (List.length a0:Int) (0:Int) a0):=by kernel_rfl
def Z13.l0(R:Run)(N n:Nat)(a b:Int):Option Dv:=R.w (some ⟨(.c (.d yI a)::(V.dead::(V.dead::(.c (.d yI b)::(zd 14 []))))),(zo 19 [])⟩) fun st=>lC R pol_Z13 4 N [1,1,0,1,0,0] F_Z13 n st (kB R pol_Z13 0 (kS R pol_Z13 8 N [1,1,1] F_Z13 (qlU E sg_Z13 F_Z13)))
theorem Z13.l0_succ(R:Run)(hw:R.ok)(N n:Nat)(a b:Int):Z13.l0 R N (n+1) a b=(bif (decide ((w64 (b*b))≤a)) then((chk (b != 0)).bind fun _=>(bif ((Int.tmod a b)==(0:Int)) then some ⟨o_Z13,(false,())⟩ else(Z13.l0 R N n a (w64 (b+1))))) else some ⟨o_Z13,(true,())⟩):=(hw _ _).trans (by kernel_rfl)
theorem Z13.ev(R:Run)(N:Nat)(a0:Int):qlw E R sg_Z13 pol_Z13 F_Z13 N [⟨yI,a0⟩]=((qjK R n_Z40 o_Z40 [⟨yI,a0⟩,⟨yI,(2:Int)⟩,⟨yI,(251:Int)⟩]).bind fun r1=>(bif (!r1.1) then some ⟨o_Z13,(false,())⟩ else(Z13.l0 R N N a0 (2:Int)))):=by kernel_rfl
theorem Z36.ev(R:Run)(N:Nat)(a0:vK):qlw E R sg_Z36 pol_Z36 F_Z36 N [⟨yK,a0⟩]=some ⟨o_Z36,((List.length a0:Int),())⟩:=by kernel_rfl
def Z23.l0(R:Run)(N n:Nat)(a:vK)(b e:Int)(f:vK)(g:List Int):Option Dv:=R.w (some ⟨(V.dead::(V.dead::(.c (.box 2 0)::(V.dead::(V.dead::(.c (.arr 24)::(zd 7 (.c (.d yK a)::(.c (.d yI b)::(.c (.d yI e)::(zd 11 []))))))))))),(none::(none::(some (.box [.d yK f] false false)::(zo 21 (some (.arr yI g true false false)::(zo 4 []))))))⟩) fun st=>lC R pol_Z23 3 N [1,1,0,1,0,0] F_Z23 n st (kB R pol_Z23 0 (kS R pol_Z23 7 N [1,1,1] F_Z23 (qlU E sg_Z23 F_Z23)))
theorem Z23.l0_succ(R:Run)(hw:R.ok)(N n:Nat)(a:vK)(b c:Int)(d:vK)(e:List Int):Z23.l0 R N (n+1) a b c d e=(bif (decide (c<b)) then((idx? a c).bind fun y8=>((qjK R n_Z26 o_Z26 [⟨yK,d⟩,⟨yL,(y8,()).1⟩]).bind fun r9=>((chk (decide ((List.length e+List.length [r9.1])*8≤70368744177664))).bind fun _=>(Z23.l0 R N n a b (w64 (c+1)) d (e++[r9.1]))))) else some ⟨o_Z23,(e,())⟩):=(hw _ _).trans (by kernel_rfl)
theorem Z23.ev(R:Run)(N:Nat)(a0:vK)(a1:Int):qlw E R sg_Z23 pol_Z23 F_Z23 N [⟨yK,a0⟩,⟨yI,a1⟩]=((idx? a0 a1).bind fun y1=>((qjK R n_Z24 o_Z24 [⟨yL,(y1,()).1⟩]).bind fun r2=>(Z23.l0 R N N r2.1 (List.length r2.1:Int) (0:Int) a0 ([]:List Int)))):=by kernel_rfl
def Z21.l1(R:Run)(N a n:Nat)(b e f:Int)(g:List Int)(h i:Int)(j:vK)(k:(List (Int×Int×Int×Unit))):Option Dv:=R.w (some ⟨(V.dead::(.c (.box 1 0)::(V.dead::(.c (.arr 28)::(.c (.d yI b)::(zd 4 (.c (.d yI e)::(.c (.d yI f)::(zd 4 (.c (.d yL g)::(.c (.d yI h)::(.c (.d yI i)::(zd 14 []))))))))))))),(none::(some (.box [.d yK j] false false)::(zo 26 (some (.arr (.st (.cons yI (.cons yI (.cons yI .nil)))) k true false false)::(zo 4 [])))))⟩) fun st=>lC R pol_Z21 6 N [1,1,0,1,0,0,1,1,0,0,1,1,0,0] F_Z21 n st (kB R pol_Z21 2 (kB R pol_Z21 1 (kS R pol_Z21 10 N [1,1,0,1,0,0,1,1,1] F_Z21 (kL R pol_Z21 3 N [1,1,0,1,0,0] F_Z21 a (kB R pol_Z21 0 (kS R pol_Z21 11 N [1,1,1] F_Z21 (qlU E sg_Z21 F_Z21)))))))
def Z21.l0(R:Run)(N n:Nat)(a b:Int)(e:vK)(f:(List (Int×Int×Int×Unit))):Option Dv:=R.w (some ⟨(V.dead::(.c (.box 1 0)::(V.dead::(.c (.arr 28)::(zd 5 (.c (.d yI a)::(.c (.d yI b)::(zd 21 [])))))))),(none::(some (.box [.d yK e] false false)::(zo 26 (some (.arr (.st (.cons yI (.cons yI (.cons yI .nil)))) f true false false)::(zo 4 [])))))⟩) fun st=>lC R pol_Z21 3 N [1,1,0,1,0,0] F_Z21 n st (kB R pol_Z21 0 (kS R pol_Z21 11 N [1,1,1] F_Z21 (qlU E sg_Z21 F_Z21)))
theorem Z21.l1_succ(R:Run)(hw:R.ok)(N a n:Nat)(b c d:Int)(e:List Int)(f g:Int)(h:vK)(i:(List (Int×Int×Int×Unit))):Z21.l1 R N a (n+1) b c d e f g h i=(bif (decide (g<f)) then((idx? e g).bind fun y15=>((chk (decide ((List.length i+List.length [(b,g,(y15,()).1,())])*24≤70368744177664))).bind fun _=>(Z21.l1 R N a n b c d e f (w64 (g+1)) h (i++[(b,g,(y15,()).1,())])))) else(Z21.l0 R N a c (w64 (d+1)) h i)):=(hw _ _).trans (by kernel_rfl)
theorem Z21.l0_succ(R:Run)(hw:R.ok)(N n:Nat)(a b:Int)(c:vK)(d:(List (Int×Int×Int×Unit))):Z21.l0 R N (n+1) a b c d=(bif (decide (b<a)) then((qjK R n_Z23 o_Z23 [⟨yK,c⟩,⟨yI,b⟩]).bind fun r6=>(Z21.l1 R N n N b a b r6.1 (List.length r6.1:Int) (0:Int) c d)) else some ⟨o_Z21,(d,())⟩):=(hw _ _).trans (by kernel_rfl)
theorem Z21.ev(R:Run)(N:Nat)(a0:vK):qlw E R sg_Z21 pol_Z21 F_Z21 N [⟨yK,a0⟩]=((qjK R n_Z36 o_Z36 [⟨yK,a0⟩]).bind fun r1=>(Z21.l0 R N N r1.1 (0:Int) a0 ([]:List (Int×Int×Int×Unit)))):=by kernel_rfl
theorem Z32.ev(R:Run)(N:Nat)(a0:Int):qlw E R sg_Z32 pol_Z32 F_Z32 N [⟨yI,a0⟩]=((qjK R n_Z40 o_Z40 [⟨yI,a0⟩,⟨yI,(0:Int)⟩,⟨yI,(32:Int)⟩]).bind fun r1=>some ⟨o_Z32,(r1.1,())⟩):=by kernel_rfl
theorem Z37.ev(R:Run)(N:Nat)(a0:List Int):qlw E R sg_Z37 pol_Z37 F_Z37 N [⟨yL,a0⟩]=some ⟨o_Z37,((List.length a0:Int),())⟩:=by kernel_rfl
theorem Z28.ev(R:Run)(N:Nat)(a0 a1:Int):qlw E R sg_Z28 pol_Z28 F_Z28 N [⟨yI,a0⟩,⟨yI,a1⟩]=((qjK R n_Z40 o_Z40 [⟨yI,a0⟩,⟨yI,(0:Int)⟩,⟨yI,(w64 (a1-1))⟩]).bind fun r1=>some ⟨o_Z28,(r1.1,())⟩):=by kernel_rfl
theorem Z18.ev(R:Run)(N:Nat)(a0:Int)(a1:(Int×Unit)):qlw E R sg_Z18 pol_Z18 F_Z18 N [⟨yI,a0⟩,⟨(.ptr (.cons yI .nil)),a1⟩]=((qjK R n_Z28 o_Z28 [⟨yI,a0⟩,⟨yI,a1.1⟩]).bind fun r1=>some ⟨o_Z18,((!r1.1),())⟩):=by kernel_rfl
end
end VeT

open Go Go.Proofs Ve
set_option maxRecDepth 100000
namespace VeT
noncomputable section
abbrev q1_0(R:Run)(N:Nat):=kS R pol_Z76 7 N [1,1] F_Z76
abbrev q1_1(R:Run)(N:Nat):=lC R pol_Z76 2 N [1,0,1,0,0] F_Z76
abbrev q1_2(R:Run):=kB R pol_Z76 0
def Z79.l0(R:Run)(N n:Nat)(a:List Int)(b:((Int×Unit)×Unit))(e f:Int):Option Dv:=R.w (some ⟨(.c (.d yL a)::(.c (.d (.fn n_Z18 (.cons (.ptr (.cons yI .nil)) .nil)) b)::(zd 5 (.c (.d yI e)::(.c (.d yI f)::(zd 10 [])))))),(zo 21 [])⟩) fun st=>q1_1 R N n st (q1_2 R (q1_0 R N (qlU E sg_Z76 F_Z76)))
theorem Z79.l0_succ(R:Run)(hw:R.ok)(N n:Nat)(a:List Int)(b:((Int×Unit)×Unit))(c d:Int):Z79.l0 R N (n+1) a b c d=(bif (decide (d<c)) then((idx? a d).bind fun y5=>((qjK R n_Z18 o_Z18 [⟨yI,(y5,()).1⟩,⟨(.ptr (.cons yI .nil)),b.1⟩]).bind fun r6=>(bif r6.1 then some ⟨o_Z76,(d,())⟩ else(Z79.l0 R N n a b c (w64 (d+1)))))) else some ⟨o_Z76,((-1:Int),())⟩):=(hw _ _).trans (by kernel_rfl)
theorem Z79.ev(R:Run)(N:Nat)(a0:List Int)(a1:((Int×Unit)×Unit)):qlw E R sg_Z76 pol_Z76 F_Z76 N [⟨yL,a0⟩,⟨(.fn n_Z18 (.cons (.ptr (.cons yI .nil)) .nil)),a1⟩]=(Z79.l0 R N N a0 a1 (List.length a0:Int) (0:Int)):=by kernel_rfl
theorem Z69.ev(R:Run)(N:Nat)(a0:List Int)(a1:((Int×Unit)×Unit)):qlw E R sg_Z66 pol_Z66 F_Z66 N [⟨yL,a0⟩,⟨(.fn n_Z18 (.cons (.ptr (.cons yI .nil)) .nil)),a1⟩]=((qjK R n_Z76 o_Z76 [⟨yL,a0⟩,⟨(.fn n_Z18 (.cons (.ptr (.cons yI .nil)) .nil)),a1⟩]).bind fun r1=>some ⟨o_Z66,((decide (r1.1≥(0:Int))),())⟩):=by kernel_rfl
theorem Z17.ev(R:Run)(N:Nat)(a0:List Int)(a1:Int):qlw E R sg_Z17 pol_Z17 F_Z17 N [⟨yL,a0⟩,⟨yI,a1⟩]=((qjK R n_Z66 o_Z66 [⟨yL,a0⟩,⟨(.fn n_Z18 (.cons (.ptr (.cons yI .nil)) .nil)),((a1,()),())⟩]).bind fun r1=>some ⟨o_Z17,((!r1.1),())⟩):=by kernel_rfl
theorem Z12.ev(R:Run)(N:Nat)(a0 a1 a2:Int)(a3:List Int):qlw E R sg_Z12 pol_Z12 F_Z12 N [⟨yI,a0⟩,⟨yI,a1⟩,⟨yI,a2⟩,⟨yL,a3⟩]=((qjK R n_Z13 o_Z13 [⟨yI,a0⟩]).bind fun r1=>(bif r1.1 then((qjK R n_Z32 o_Z32 [⟨yI,a1⟩]).bind fun r2=>(bif r2.1 then((qjK R n_Z32 o_Z32 [⟨yI,a2⟩]).bind fun r3=>(bif r3.1 then((qjK R n_Z37 o_Z37 [⟨yL,a3⟩]).bind fun r4=>(bif (r4.1==(w64 (a1*a2))) then((qjK R n_Z17 o_Z17 [⟨yL,a3⟩,⟨yI,a0⟩]).bind fun r5=>some ⟨o_Z12,(r5.1,())⟩) else some ⟨o_Z12,(false,())⟩)) else some ⟨o_Z12,(false,())⟩)) else some ⟨o_Z12,(false,())⟩)) else some ⟨o_Z12,(false,())⟩)):=by kernel_rfl
theorem Z27.ev(R:Run)(N:Nat)(a0 a1 a2:Int)(a3:List Int)(a4 a5 a6:Int):qlw E R sg_Z27 pol_Z27 F_Z27 N [⟨yI,a0⟩,⟨yI,a1⟩,⟨yI,a2⟩,⟨yL,a3⟩,⟨yI,a4⟩,⟨yI,a5⟩,⟨yI,a6⟩]=((qjK R n_Z12 o_Z12 [⟨yI,a0⟩,⟨yI,a1⟩,⟨yI,a2⟩,⟨yL,a3⟩]).bind fun r1=>(bif r1.1 then(bif (a0==a4) then(bif (a1==a6) then some ⟨o_Z27,((a2==a5),())⟩ else some ⟨o_Z27,(false,())⟩) else some ⟨o_Z27,(false,())⟩) else some ⟨o_Z27,(false,())⟩)):=by kernel_rfl
theorem Z20.ev(R:Run)(N:Nat)(a0:Int):qlw E R sg_Z20 pol_Z20 F_Z20 N [⟨yI,a0⟩]=((qjK R n_Z40 o_Z40 [⟨yI,a0⟩,⟨yI,(0:Int)⟩,⟨yI,(3:Int)⟩]).bind fun r1=>some ⟨o_Z20,((!r1.1),())⟩):=by kernel_rfl
def Z80.l0(R:Run)(N n:Nat)(a:List Int)(b e:Int):Option Dv:=R.w (some ⟨(.c (.d yL a)::(.c (.d (.fn n_Z20 .nil) ())::(zd 5 (.c (.d yI b)::(.c (.d yI e)::(zd 10 [])))))),(zo 21 [])⟩) fun st=>q1_1 R N n st (q1_2 R (q1_0 R N (qlU E sg_Z76 F_Z76)))
theorem Z80.l0_succ(R:Run)(hw:R.ok)(N n:Nat)(a:List Int)(b c:Int):Z80.l0 R N (n+1) a b c=(bif (decide (c<b)) then((idx? a c).bind fun y4=>((qjK R n_Z20 o_Z20 [⟨yI,(y4,()).1⟩]).bind fun r5=>(bif r5.1 then some ⟨o_Z76,(c,())⟩ else(Z80.l0 R N n a b (w64 (c+1)))))) else some ⟨o_Z76,((-1:Int),())⟩):=(hw _ _).trans (by kernel_rfl)
theorem Z80.ev(R:Run)(N:Nat)(a0:List Int):qlw E R sg_Z76 pol_Z76 F_Z76 N [⟨yL,a0⟩,⟨(.fn n_Z20 .nil),()⟩]=(Z80.l0 R N N a0 (List.length a0:Int) (0:Int)):=by kernel_rfl
theorem Z70.ev(R:Run)(N:Nat)(a0:List Int):qlw E R sg_Z66 pol_Z66 F_Z66 N [⟨yL,a0⟩,⟨(.fn n_Z20 .nil),()⟩]=((qjK R n_Z76 o_Z76 [⟨yL,a0⟩,⟨(.fn n_Z20 .nil),()⟩]).bind fun r1=>some ⟨o_Z66,((decide (r1.1≥(0:Int))),())⟩):=by kernel_rfl
def Z35.l0(R:Run)(N n:Nat)(a:Int)(b:vK)(e f:Int)(g:List Int):Option Dv:=R.w (some ⟨(V.dead::(.c (.d yI a)::(zd 3 (.c (.arr 24)::(zd 3 (.c (.d yK b)::(.c (.d yI e)::(.c (.d yI f)::(zd 15 []))))))))),(zo 24 (some (.arr yI g true false false)::(zo 4 [])))⟩) fun st=>lC R pol_Z35 3 N [1,1,0,1,0,0] F_Z35 n st (kB R pol_Z35 0 (kS R pol_Z35 8 N [1,1,1] F_Z35 (qlU E sg_Z35 F_Z35)))
theorem Z35.l0_succ(R:Run)(hw:R.ok)(N n:Nat)(a:Int)(b:vK)(c d:Int)(e:List Int):Z35.l0 R N (n+1) a b c d e=(bif (decide (d<c)) then((idx? b d).bind fun y6=>((qjK R n_Z37 o_Z37 [⟨yL,(y6,()).1⟩]).bind fun r7=>(bif (r7.1==(w64 (a+1))) then((chk (decide ((List.length e+List.length [d])*8≤70368744177664))).bind fun _=>(Z35.l0 R N n a b c (w64 (d+1)) (e++[d]))) else(Z35.l0 R N n a b c (w64 (d+1)) e)))) else some ⟨o_Z35,(e,())⟩):=(hw _ _).trans (by kernel_rfl)
theorem Z35.ev(R:Run)(N:Nat)(a0:vK)(a1:Int):qlw E R sg_Z35 pol_Z35 F_Z35 N [⟨yK,a0⟩,⟨yI,a1⟩]=(Z35.l0 R N N a1 a0 (List.length a0:Int) (0:Int) ([]:List Int)):=by kernel_rfl
def Z38.l0(R:Run)(N n:Nat)(a:Int)(b:List Int)(e f:Int)(g:vK)(h:Int)(i:List Int)(j:vN):Option Dv:=R.w (some ⟨(V.dead::(V.dead::(.c (.box 2 0)::(V.dead::(V.dead::(.c (.d yI a)::(zd 5 (.c (.d yL b)::(.c (.d yI e)::(.c (.d yI f)::(zd 12 []))))))))))),(none::(none::(some (.box [.d yK g,.d yI h,.d yL i,.d yN j] false false)::(zo 28 []))))⟩) fun st=>lC R pol_Z38 3 N [1,1,0,1,0,0] F_Z38 n st (kB R pol_Z38 0 (kS R pol_Z38 7 N [1,1,1] F_Z38 (qlU E sg_Z38 F_Z38)))
theorem Z38.l0_succ(R:Run)(hw:R.ok)(N n:Nat)(a:Int)(b:List Int)(c d:Int)(e:vK)(f:Int)(g:List Int)(h:vN):Z38.l0 R N (n+1) a b c d e f g h=(bif (decide (d<c)) then((idx? b d).bind fun y10=>((idx? g (y10,()).1).bind fun y11=>(Z38.l0 R N n (w64 (a+(y11,()).1)) b c (w64 (d+1)) e f g h))) else some ⟨o_Z38,(a,())⟩):=(hw _ _).trans (by kernel_rfl)
theorem Z38.ev(R:Run)(N:Nat)(a0:vK)(a1:Int)(a2:List Int)(a3:vN)(a4:Int):qlw E R sg_Z38 pol_Z38 F_Z38 N [⟨yK,a0⟩,⟨yI,a1⟩,⟨yL,a2⟩,⟨yN,a3⟩,⟨yI,a4⟩]=((qjK R n_Z35 o_Z35 [⟨yK,a0⟩,⟨yI,a4⟩]).bind fun r1=>(Z38.l0 R N N (0:Int) r1.1 (List.length r1.1:Int) (0:Int) a0 a1 a2 a3)):=by kernel_rfl
def Z19.l1(R:Run)(N n:Nat)(a:List Int)(b:Int)(e:vK):Option Dv:=R.w (some ⟨(V.dead::(.c (.d yL a)::(.c (.box 2 0)::(zd 13 (.c (.d yI b)::(zd 9 [])))))),(none::(none::(some (.box [.d yK e] false false)::(zo 25 []))))⟩) fun st=>lC R pol_Z19 4 N [1,1,0,1,0,0] F_Z19 n st (kB R pol_Z19 0 (kS R pol_Z19 9 N [1,1,1] F_Z19 (qlU E sg_Z19 F_Z19)))
def Z19.j0(R:Run)(N:Nat)(a:List Int)(b:Bool)(e:vK):Option Dv:=R.w (some ⟨(V.dead::(.c (.d yL a)::(.c (.box 2 0)::(zd 12 (.c (.d .bool b)::(zd 10 [])))))),(none::(none::(some (.box [.d yK e] false false)::(zo 25 []))))⟩) fun st=>eC R pol_Z19 N [1,0,1] F_Z19 st (kS R pol_Z19 3 N [1,1] F_Z19 (qlU E sg_Z19 F_Z19))
theorem Z19.l1_succ(R:Run)(hw:R.ok)(N n:Nat)(a:List Int)(b:Int)(c:vK):Z19.l1 R N (n+1) a b c=(bif (decide (b<(4:Int))) then((qjK R n_Z38 o_Z38 [⟨yK,c⟩,⟨yI,(0:Int)⟩,⟨yL,a⟩,⟨yN,([]:List vM)⟩,⟨yI,b⟩]).bind fun r7=>(bif (decide (r7.1>(32:Int))) then some ⟨o_Z19,(false,())⟩ else(Z19.l1 R N n a (w64 (b+1)) c))) else some ⟨o_Z19,(true,())⟩):=(hw _ _).trans (by kernel_rfl)
theorem Z19.j0_eq(R:Run)(hw:R.ok)(N:Nat)(a:List Int)(b:Bool)(c:vK):Z19.j0 R N a b c=(bif b then some ⟨o_Z19,(false,())⟩ else(Z19.l1 R N N a (0:Int) c)):=(hw _ _).trans (by kernel_rfl)
theorem Z19.ev(R:Run)(N:Nat)(a0:vK)(a1:List Int):qlw E R sg_Z19 pol_Z19 F_Z19 N [⟨yK,a0⟩,⟨yL,a1⟩]=(bif ((List.length a1:Int) != (List.length a0:Int)) then(Z19.j0 R N a1 true a0) else((qjK R n_Z66 o_Z66 [⟨yL,a1⟩,⟨(.fn n_Z20 .nil),()⟩]).bind fun r11=>(Z19.j0 R N a1 r11.1 a0))):=by kernel_rfl
def Z14.j2(R:Run)(N a:Nat)(b e:(List (Int×Int×Int×Unit)))(f g:Int)(h:Bool)(i:vK)(j:Int)(k:List Int)(l:vN):Option Dv:=R.w (some ⟨(V.dead::(.c (.box 1 0)::(V.dead::(.c (.d (.sl (.st (.cons yI (.cons yI (.cons yI .nil))))) b)::(zd 23 (.c (.d (.sl (.st (.cons yI (.cons yI (.cons yI .nil))))) e)::(.c (.d yI f)::(.c (.d yI g)::(zd 31 (.c (.d .bool h)::(zd 7 []))))))))))),(none::(some (.box [.d yK i,.d yI j,.d yL k,.d yN l] false false)::(zo 71 [])))⟩) fun st=>eC R pol_Z14 N [1,1,1,0,1,0,0,1,1,0,0,1,1] F_Z14 st (kB R pol_Z14 1 (kS R pol_Z14 9 N [1,1,1,0,1,0,0,1,1,1] F_Z14 (kL R pol_Z14 5 N [1,1,1,0,1,0,0] F_Z14 a (kB R pol_Z14 0 (kS R pol_Z14 10 N [1,1,1,1] F_Z14 (qlU E sg_Z14 F_Z14))))))
def Z14.l1(R:Run)(N n:Nat)(a b:(List (Int×Int×Int×Unit)))(e f:Int)(g:vK)(h:Int)(i:List Int)(j:vN):Option Dv:=R.w (some ⟨(V.dead::(.c (.box 1 0)::(V.dead::(.c (.d (.sl (.st (.cons yI (.cons yI (.cons yI .nil))))) a)::(zd 23 (.c (.d (.sl (.st (.cons yI (.cons yI (.cons yI .nil))))) b)::(.c (.d yI e)::(.c (.d yI f)::(zd 39 []))))))))),(none::(some (.box [.d yK g,.d yI h,.d yL i,.d yN j] false false)::(zo 71 [])))⟩) fun st=>lC R pol_Z14 5 N [1,1,1,0,1,0,0] F_Z14 n st (kB R pol_Z14 0 (kS R pol_Z14 10 N [1,1,1,1] F_Z14 (qlU E sg_Z14 F_Z14)))
def Z14.j0(R:Run)(N:Nat)(a:Bool)(b:vK)(e:Int)(f:List Int)(g:vN):Option Dv:=R.w (some ⟨(V.dead::(.c (.box 1 0)::(zd 21 (.c (.d .bool a)::(zd 45 []))))),(none::(some (.box [.d yK b,.d yI e,.d yL f,.d yN g] false false)::(zo 71 [])))⟩) fun st=>eC R pol_Z14 N [1,0,1] F_Z14 st (kS R pol_Z14 3 N [1,1] F_Z14 (qlU E sg_Z14 F_Z14))
theorem Z14.j2_eq(R:Run)(hw:R.ok)(N a:Nat)(b c:(List (Int×Int×Int×Unit)))(d e:Int)(f:Bool)(g:vK)(h:Int)(i:List Int)(j:vN):Z14.j2 R N a b c d e f g h i j=(bif f then some ⟨o_Z14,(false,())⟩ else(Z14.l1 R N a b c d (w64 (e+1)) g h i j)):=(hw _ _).trans (by kernel_rfl)
theorem Z14.l1_succ(R:Run)(hw:R.ok)(N n:Nat)(a b:(List (Int×Int×Int×Unit)))(c d:Int)(e:vK)(f:Int)(g:List Int)(h:vN):Z14.l1 R N (n+1) a b c d e f g h=(bif (decide (d<c)) then((idx? b d).bind fun y16=>(bif (decide (d≥(List.length h:Int))) then(Z14.j2 R N n a b c d true e f g h) else((idx? h d).bind fun y34=>((idx? g y16.2.2.1).bind fun y35=>((idx? g y16.1).bind fun y36=>((qjK R n_Z27 o_Z27 [⟨yI,y34.1⟩,⟨yI,y34.2.1⟩,⟨yI,y34.2.2.1⟩,⟨yL,y34.2.2.2.1⟩,⟨yI,f⟩,⟨yI,(y35,()).1⟩,⟨yI,(y36,()).1⟩]).bind fun r37=>(Z14.j2 R N n a b c d (!r37.1) e f g h))))))) else some ⟨o_Z14,(((List.length a:Int)==(List.length h:Int)),())⟩):=(hw _ _).trans (by kernel_rfl)
theorem Z14.j0_eq(R:Run)(hw:R.ok)(N:Nat)(a:Bool)(b:vK)(c:Int)(d:List Int)(e:vN):Z14.j0 R N a b c d e=(bif a then some ⟨o_Z14,(false,())⟩ else((qjK R n_Z21 o_Z21 [⟨yK,b⟩]).bind fun r7=>(Z14.l1 R N N r7.1 r7.1 (List.length r7.1:Int) (0:Int) b c d e))):=(hw _ _).trans (by kernel_rfl)
theorem Z14.ev(R:Run)(N:Nat)(a0:vK)(a1:Int)(a2:List Int)(a3:vN):qlw E R sg_Z14 pol_Z14 F_Z14 N [⟨yK,a0⟩,⟨yI,a1⟩,⟨yL,a2⟩,⟨yN,a3⟩]=((qjK R n_Z10 o_Z10 [⟨yK,a0⟩]).bind fun r1=>(bif (!r1.1) then(Z14.j0 R N true a0 a1 a2 a3) else((qjK R n_Z13 o_Z13 [⟨yI,a1⟩]).bind fun r47=>(bif (!r47.1) then(Z14.j0 R N true a0 a1 a2 a3) else((qjK R n_Z19 o_Z19 [⟨yK,a0⟩,⟨yL,a2⟩]).bind fun r53=>(Z14.j0 R N (!r53.1) a0 a1 a2 a3)))))):=by kernel_rfl
def Z82.l0(R:Run)(N n:Nat)(a:List Int)(b e f:Int):Option Dv:=R.w (some ⟨(.c (.d yL a)::(.c (.d yI b)::(zd 5 (.c (.d yI e)::(.c (.d yI f)::(zd 10 [])))))),(zo 21 [])⟩) fun st=>lC R pol_Z82 2 N [1,0,1,0,0] F_Z82 n st (kB R pol_Z82 0 (kS R pol_Z82 7 N [1,1] F_Z82 (qlU E sg_Z82 F_Z82)))
theorem Z82.l0_succ(R:Run)(hw:R.ok)(N n:Nat)(a:List Int)(b c d:Int):Z82.l0 R N (n+1) a b c d=(bif (decide (d<c)) then((idx? a d).bind fun y5=>(bif (b==(y5,()).1) then some ⟨o_Z82,(d,())⟩ else(Z82.l0 R N n a b c (w64 (d+1))))) else some ⟨o_Z82,((-1:Int),())⟩):=(hw _ _).trans (by kernel_rfl)
theorem Z82.ev(R:Run)(N:Nat)(a0:List Int)(a1:Int):qlw E R sg_Z82 pol_Z82 F_Z82 N [⟨yL,a0⟩,⟨yI,a1⟩]=(Z82.l0 R N N a0 a1 (List.length a0:Int) (0:Int)):=by kernel_rfl
theorem Z72.ev(R:Run)(N:Nat)(a0:List Int)(a1:Int):qlw E R sg_Z72 pol_Z72 F_Z72 N [⟨yL,a0⟩,⟨yI,a1⟩]=((qjK R n_Z82 o_Z82 [⟨yL,a0⟩,⟨yI,a1⟩]).bind fun r1=>some ⟨o_Z72,((decide (r1.1≥(0:Int))),())⟩):=by kernel_rfl
theorem Z30.ev(R:Run)(N:Nat)(a0:Int)(a1:((List Int)×Unit)):qlw E R sg_Z30 pol_Z30 F_Z30 N [⟨yI,a0⟩,⟨(.ptr (.cons yL .nil)),a1⟩]=((qjK R n_Z72 o_Z72 [⟨yL,a1.1⟩,⟨yI,a0⟩]).bind fun r1=>some ⟨o_Z30,((!r1.1),())⟩):=by kernel_rfl
def Z81.l0(R:Run)(N n:Nat)(a:List Int)(b:(((List Int)×Unit)×Unit))(e f:Int):Option Dv:=R.w (some ⟨(.c (.d yL a)::(.c (.d (.fn n_Z30 (.cons (.ptr (.cons yL .nil)) .nil)) b)::(zd 5 (.c (.d yI e)::(.c (.d yI f)::(zd 10 [])))))),(zo 21 [])⟩) fun st=>q1_1 R N n st (q1_2 R (q1_0 R N (qlU E sg_Z76 F_Z76)))
theorem Z81.l0_succ(R:Run)(hw:R.ok)(N n:Nat)(a:List Int)(b:(((List Int)×Unit)×Unit))(c d:Int):Z81.l0 R N (n+1) a b c d=(bif (decide (d<c)) then((idx? a d).bind fun y5=>((qjK R n_Z30 o_Z30 [⟨yI,(y5,()).1⟩,⟨(.ptr (.cons yL .nil)),b.1⟩]).bind fun r6=>(bif r6.1 then some ⟨o_Z76,(d,())⟩ else(Z81.l0 R N n a b c (w64 (d+1)))))) else some ⟨o_Z76,((-1:Int),())⟩):=(hw _ _).trans (by kernel_rfl)
theorem Z81.ev(R:Run)(N:Nat)(a0:List Int)(a1:(((List Int)×Unit)×Unit)):qlw E R sg_Z76 pol_Z76 F_Z76 N [⟨yL,a0⟩,⟨(.fn n_Z30 (.cons (.ptr (.cons yL .nil)) .nil)),a1⟩]=(Z81.l0 R N N a0 a1 (List.length a0:Int) (0:Int)):=by kernel_rfl
theorem Z71.ev(R:Run)(N:Nat)(a0:List Int)(a1:(((List Int)×Unit)×Unit)):qlw E R sg_Z66 pol_Z66 F_Z66 N [⟨yL,a0⟩,⟨(.fn n_Z30 (.cons (.ptr (.cons yL .nil)) .nil)),a1⟩]=((qjK R n_Z76 o_Z76 [⟨yL,a0⟩,⟨(.fn n_Z30 (.cons (.ptr (.cons yL .nil)) .nil)),a1⟩]).bind fun r1=>some ⟨o_Z66,((decide (r1.1≥(0:Int))),())⟩):=by kernel_rfl
theorem Z29.ev(R:Run)(N:Nat)(a0 a1:List Int):qlw E R sg_Z29 pol_Z29 F_Z29 N [⟨yL,a0⟩,⟨yL,a1⟩]=((qjK R n_Z66 o_Z66 [⟨yL,a0⟩,⟨(.fn n_Z30 (.cons (.ptr (.cons yL .nil)) .nil)),((a1,()),())⟩]).bind fun r1=>some ⟨o_Z29,((!r1.1),())⟩):=by kernel_rfl
def Z39.l0(R:Run)(N n:Nat)(a:Int)(b:vK)(e f:Int)(g:vK)(h:List Int):Option Dv:=R.w (some ⟨(V.dead::(.c (.d yI a)::(.c (.box 2 0)::(V.dead::(V.dead::(.c (.arr 26)::(zd 3 (.c (.d yK b)::(.c (.d yI e)::(.c (.d yI f)::(zd 17 []))))))))))),(none::(none::(some (.box [.d yK g] false false)::(zo 23 (some (.arr yI h true false false)::(zo 4 []))))))⟩) fun st=>lC R pol_Z39 3 N [1,1,0,1,0,0] F_Z39 n st (kB R pol_Z39 0 (kS R pol_Z39 8 N [1,1,1] F_Z39 (qlU E sg_Z39 F_Z39)))
theorem Z39.l0_succ(R:Run)(hw:R.ok)(N n:Nat)(a:Int)(b:vK)(c d:Int)(e:vK)(f:List Int):Z39.l0 R N (n+1) a b c d e f=(bif (decide (d<c)) then((idx? b d).bind fun y7=>((idx? e a).bind fun y8=>((qjK R n_Z29 o_Z29 [⟨yL,(y8,()).1⟩,⟨yL,(y7,()).1⟩]).bind fun r9=>(bif r9.1 then((chk (decide ((List.length f+List.length [d])*8≤70368744177664))).bind fun _=>(Z39.l0 R N n a b c (w64 (d+1)) e (f++[d]))) else(Z39.l0 R N n a b c (w64 (d+1)) e f))))) else some ⟨o_Z39,(f,())⟩):=(hw _ _).trans (by kernel_rfl)
theorem Z39.ev(R:Run)(N:Nat)(a0:vK)(a1:Int):qlw E R sg_Z39 pol_Z39 F_Z39 N [⟨yK,a0⟩,⟨yI,a1⟩]=(Z39.l0 R N N a1 a0 (List.length a0:Int) (0:Int) a0 ([]:List Int)):=by kernel_rfl
def Z25.l0(R:Run)(N n:Nat)(a b:Int)(e:vK)(f:List Int):Option Dv:=R.w (some ⟨(V.dead::(.c (.box 1 0)::(V.dead::(.c (.arr 19)::(zd 3 (.c (.d yI a)::(.c (.d yI b)::(zd 13 [])))))))),(none::(some (.box [.d yK e] false false)::(zo 17 (some (.arr yI f true false false)::(zo 3 [])))))⟩) fun st=>lC R pol_Z25 3 N [1,1,0,1,0,0] F_Z25 n st (kB R pol_Z25 0 (kS R pol_Z25 8 N [1,1,1] F_Z25 (qlU E sg_Z25 F_Z25)))
theorem Z25.l0_succ(R:Run)(hw:R.ok)(N n:Nat)(a b:Int)(c:vK)(d:List Int):Z25.l0 R N (n+1) a b c d=(bif (decide (b<a)) then((qjK R n_Z39 o_Z39 [⟨yK,c⟩,⟨yI,b⟩]).bind fun r6=>(bif ((List.length r6.1:Int)==(1:Int)) then((chk (decide ((List.length d+List.length [b])*8≤70368744177664))).bind fun _=>(Z25.l0 R N n a (w64 (b+1)) c (d++[b]))) else(Z25.l0 R N n a (w64 (b+1)) c d))) else some ⟨o_Z25,(d,())⟩):=(hw _ _).trans (by kernel_rfl)
theorem Z25.ev(R:Run)(N:Nat)(a0:vK):qlw E R sg_Z25 pol_Z25 F_Z25 N [⟨yK,a0⟩]=((qjK R n_Z36 o_Z36 [⟨yK,a0⟩]).bind fun r1=>(Z25.l0 R N N r1.1 (0:Int) a0 ([]:List Int))):=by kernel_rfl
theorem Z33.ev(R:Run)(N:Nat)(a0:Int):qlw E R sg_Z33 pol_Z33 F_Z33 N [⟨yI,a0⟩]=((qjK R n_Z40 o_Z40 [⟨yI,a0⟩,⟨yI,(-1000000000000:Int)⟩,⟨yI,(1000000000000:Int)⟩]).bind fun r1=>some ⟨o_Z33,(r1.1,())⟩):=by kernel_rfl
theorem Z8.ev(R:Run)(N:Nat)(a0:Int):qlw E R sg_Z8 pol_Z8 F_Z8 N [⟨yI,a0⟩]=((qjK R n_Z33 o_Z33 [⟨yI,a0⟩]).bind fun r1=>some ⟨o_Z8,((!r1.1),())⟩):=by kernel_rfl
def Z77.l0(R:Run)(N n:Nat)(a:List Int)(b e:Int):Option Dv:=R.w (some ⟨(.c (.d yL a)::(.c (.d (.fn n_Z8 .nil) ())::(zd 5 (.c (.d yI b)::(.c (.d yI e)::(zd 10 [])))))),(zo 21 [])⟩) fun st=>q1_1 R N n st (q1_2 R (q1_0 R N (qlU E sg_Z76 F_Z76)))
theorem Z77.l0_succ(R:Run)(hw:R.ok)(N n:Nat)(a:List Int)(b c:Int):Z77.l0 R N (n+1) a b c=(bif (decide (c<b)) then((idx? a c).bind fun y4=>((qjK R n_Z8 o_Z8 [⟨yI,(y4,()).1⟩]).bind fun r5=>(bif r5.1 then some ⟨o_Z76,(c,())⟩ else(Z77.l0 R N n a b (w64 (c+1)))))) else some ⟨o_Z76,((-1:Int),())⟩):=(hw _ _).trans (by kernel_rfl)
theorem Z77.ev(R:Run)(N:Nat)(a0:List Int):qlw E R sg_Z76 pol_Z76 F_Z76 N [⟨yL,a0⟩,⟨(.fn n_Z8 .nil),()⟩]=(Z77.l0 R N N a0 (List.length a0:Int) (0:Int)):=by kernel_rfl
theorem Z67.ev(R:Run)(N:Nat)(a0:List Int):qlw E R sg_Z66 pol_Z66 F_Z66 N [⟨yL,a0⟩,⟨(.fn n_Z8 .nil),()⟩]=((qjK R n_Z76 o_Z76 [⟨yL,a0⟩,⟨(.fn n_Z8 .nil),()⟩]).bind fun r1=>some ⟨o_Z66,((decide (r1.1≥(0:Int))),())⟩):=by kernel_rfl
theorem Z6.ev(R:Run)(N:Nat)(a0:Int):qlw E R sg_Z6 pol_Z6 F_Z6 N [⟨yI,a0⟩]=((qjK R n_Z113 o_Z113 [⟨yI,a0⟩,⟨yI,(10:Int)⟩]).bind fun r1=>some ⟨o_Z6,(r1.1,())⟩):=by kernel_rfl
def Z7.l1(R:Run)(N n:Nat)(a:List Int)(b e:Int)(f:(List ByteArray)):Option Dv:=R.w (some ⟨(zd 3 (.c (.arr 26)::(zd 12 (.c (.d yL a)::(.c (.d yI b)::(.c (.d yI e)::(zd 11 []))))))),(zo 26 (some (.arr .str f true false false)::(zo 4 [])))⟩) fun st=>lC R pol_Z7 7 N [1,1,1,1,0,1,0,0] F_Z7 n st (kB R pol_Z7 0 (kS R pol_Z7 11 N [1,1,1,1,1] F_Z7 (qlU E sg_Z7 F_Z7)))
def Z7.j0(R:Run)(N:Nat)(a:List Int)(b:Bool):Option Dv:=R.w (some ⟨(.c (.d yL a)::(zd 11 (.c (.d .bool b)::(zd 17 [])))),(zo 31 [])⟩) fun st=>eC R pol_Z7 N [1,0,1] F_Z7 st (kS R pol_Z7 3 N [1,1] F_Z7 (qlU E sg_Z7 F_Z7))
theorem Z7.l1_succ(R:Run)(hw:R.ok)(N n:Nat)(a:List Int)(b c:Int)(d:(List ByteArray)):Z7.l1 R N (n+1) a b c d=(bif (decide (c<b)) then((idx? a c).bind fun y7=>((qjK R n_Z6 o_Z6 [⟨yI,(y7,()).1⟩]).bind fun r8=>((chk (decide ((List.length d+List.length [r8.1])*16≤70368744177664))).bind fun _=>(Z7.l1 R N n a b (w64 (c+1)) (d++[r8.1]))))) else((qjK R n_Z114 o_Z114 [⟨(.sl .str),d⟩,⟨.str,(ByteArray.mk #[44])⟩]).bind fun r13=>some ⟨o_Z7,(r13.1,())⟩)):=(hw _ _).trans (by kernel_rfl)
theorem Z7.j0_eq(R:Run)(hw:R.ok)(N:Nat)(a:List Int)(b:Bool):Z7.j0 R N a b=(bif b then some ⟨o_Z7,((ByteArray.mk #[]),())⟩ else(bif ((List.length a:Int)==(0:Int)) then some ⟨o_Z7,((ByteArray.mk #[45]),())⟩ else(Z7.l1 R N N a (List.length a:Int) (0:Int) ([]:List ByteArray)))):=(hw _ _).trans (by kernel_rfl)
theorem Z7.ev(R:Run)(N:Nat)(a0:List Int):qlw E R sg_Z7 pol_Z7 F_Z7 N [⟨yL,a0⟩]=(bif (decide ((List.length a0:Int)>(64:Int))) then(Z7.j0 R N a0 true) else((qjK R n_Z66 o_Z66 [⟨yL,a0⟩,⟨(.fn n_Z8 .nil),()⟩]).bind fun r14=>(Z7.j0 R N a0 r14.1))):=by kernel_rfl
def Z5.l0(R:Run)(N n:Nat)(a:List Int)(b e:Int)(f:vK)(g:(List ByteArray)):Option Dv:=R.w (some ⟨(V.dead::(.c (.box 1 0)::(V.dead::(.c (.arr 24)::(zd 6 (.c (.d yL a)::(.c (.d yI b)::(.c (.d yI e)::(zd 18 []))))))))),(none::(some (.box [.d yK f] false false)::(zo 22 (some (.arr .str g true false false)::(zo 7 [])))))⟩) fun st=>lC R pol_Z5 5 N [1,1,1,0,1,0,0] F_Z5 n st (kB R pol_Z5 0 (kS R pol_Z5 9 N [1,1,1,1] F_Z5 (qlU E sg_Z5 F_Z5)))
theorem Z5.l0_succ(R:Run)(hw:R.ok)(N n:Nat)(a:List Int)(b c:Int)(d:vK)(e:(List ByteArray)):Z5.l0 R N (n+1) a b c d e=(bif (decide (c<b)) then((idx? a c).bind fun y8=>((idx? d (y8,()).1).bind fun y9=>((qjK R n_Z7 o_Z7 [⟨yL,(y9,()).1⟩]).bind fun r10=>((chk (decide ((List.length e+List.length [r10.1])*16≤70368744177664))).bind fun _=>(Z5.l0 R N n a b (w64 (c+1)) d (e++[r10.1])))))) else(bif ((List.length e:Int)==(0:Int)) then some ⟨o_Z5,((ByteArray.mk #[45]),())⟩ else((qjK R n_Z114 o_Z114 [⟨(.sl .str),e⟩,⟨.str,(ByteArray.mk #[47])⟩]).bind fun r16=>some ⟨o_Z5,(r16.1,())⟩))):=(hw _ _).trans (by kernel_rfl)
theorem Z5.ev(R:Run)(N:Nat)(a0:vK):qlw E R sg_Z5 pol_Z5 F_Z5 N [⟨yK,a0⟩]=((qjK R n_Z10 o_Z10 [⟨yK,a0⟩]).bind fun r1=>(bif (!r1.1) then some ⟨o_Z5,((ByteArray.mk #[]),())⟩ else((qjK R n_Z25 o_Z25 [⟨yK,a0⟩]).bind fun r2=>(Z5.l0 R N N r2.1 (List.length r2.1:Int) (0:Int) a0 ([]:List ByteArray))))):=by kernel_rfl
def Z9.l0(R:Run)(N n:Nat)(a:vN)(b e:Int)(f:(List ByteArray)):Option Dv:=R.w (some ⟨(zd 3 (.c (.arr 18)::(zd 16 (.c (.d yN a)::(.c (.d yI b)::(.c (.d yI e)::(zd 12 []))))))),(zo 18 (some (.arr .str f true false false)::(zo 20 [])))⟩) fun st=>lC R pol_Z9 5 N [1,1,1,0,1,0,0] F_Z9 n st (kB R pol_Z9 0 (kS R pol_Z9 9 N [1,1,1,1] F_Z9 (qlU E sg_Z9 F_Z9)))
theorem Z9.l0_succ(R:Run)(hw:R.ok)(N n:Nat)(a:vN)(b c:Int)(d:(List ByteArray)):Z9.l0 R N (n+1) a b c d=(bif (decide (c<b)) then((idx? a c).bind fun y9=>((qjK R n_Z7 o_Z7 [⟨yL,y9.2.2.2.1⟩]).bind fun r10=>((chk (decide ((List.length d+List.length [r10.1])*16≤70368744177664))).bind fun _=>(Z9.l0 R N n a b (w64 (c+1)) (d++[r10.1]))))) else((qjK R n_Z114 o_Z114 [⟨(.sl .str),d⟩,⟨.str,(ByteArray.mk #[59])⟩]).bind fun r15=>some ⟨o_Z9,(r15.1,())⟩)):=(hw _ _).trans (by kernel_rfl)
theorem Z9.ev(R:Run)(N:Nat)(a0:vK)(a1:Int)(a2:List Int)(a3:vN):qlw E R sg_Z9 pol_Z9 F_Z9 N [⟨yK,a0⟩,⟨yI,a1⟩,⟨yL,a2⟩,⟨yN,a3⟩]=((qjK R n_Z14 o_Z14 [⟨yK,a0⟩,⟨yI,a1⟩,⟨yL,a2⟩,⟨yN,a3⟩]).bind fun r1=>(bif (!r1.1) then some ⟨o_Z9,((ByteArray.mk #[]),())⟩ else((qjK R n_Z5 o_Z5 [⟨yK,a0⟩]).bind fun r2=>((qjK R n_Z6 o_Z6 [⟨yI,a1⟩]).bind fun r3=>((qjK R n_Z7 o_Z7 [⟨yL,a2⟩]).bind fun r4=>(Z9.l0 R N N a3 (List.length a3:Int) (0:Int) [r2.1,r3.1,r4.1])))))):=by kernel_rfl
def Z43.l0(R:Run)(N n:Nat)(a b:List Int)(e:Int):Option Dv:=R.w (some ⟨(.c (.d yL a)::(.c (.d yL b)::(zd 3 (.c (.d yI e)::(zd 20 []))))),(zo 28 [])⟩) fun st=>lC R pol_Z43 4 N [1,1,0,1,0,0] F_Z43 n st (kB R pol_Z43 0 (kS R pol_Z43 8 N [1,1,1] F_Z43 (qlU E sg_Z43 F_Z43)))
theorem Z43.l0_succ(R:Run)(hw:R.ok)(N n:Nat)(a b:List Int)(c:Int):Z43.l0 R N (n+1) a b c=(bif (decide (c<(List.length a:Int))) then((idx? a c).bind fun y4=>((idx? b c).bind fun y5=>(bif ((y4,()).1 != (y5,()).1) then some ⟨o_Z43,(false,())⟩ else(Z43.l0 R N n a b (w64 (c+1)))))) else some ⟨o_Z43,(true,())⟩):=(hw _ _).trans (by kernel_rfl)
theorem Z43.ev(R:Run)(N:Nat)(a0 a1:List Int):qlw E R sg_Z43 pol_Z43 F_Z43 N [⟨yL,a0⟩,⟨yL,a1⟩]=(bif ((List.length a0:Int) != (List.length a1:Int)) then some ⟨o_Z43,(false,())⟩ else(Z43.l0 R N N a0 a1 (0:Int))):=by kernel_rfl
def Z44.l0(R:Run)(N n:Nat)(a b:vK)(e:Int):Option Dv:=R.w (some ⟨(.c (.d yK a)::(.c (.d yK b)::(zd 3 (.c (.d yI e)::(zd 21 []))))),(zo 29 [])⟩) fun st=>lC R pol_Z44 4 N [1,1,0,1,0,0] F_Z44 n st (kB R pol_Z44 0 (kS R pol_Z44 8 N [1,1,1] F_Z44 (qlU E sg_Z44 F_Z44)))
theorem Z44.l0_succ(R:Run)(hw:R.ok)(N n:Nat)(a b:vK)(c:Int):Z44.l0 R N (n+1) a b c=(bif (decide (c<(List.length a:Int))) then((idx? a c).bind fun y4=>((idx? b c).bind fun y5=>((qjK R n_Z43 o_Z43 [⟨yL,(y4,()).1⟩,⟨yL,(y5,()).1⟩]).bind fun r6=>(bif (!r6.1) then some ⟨o_Z44,(false,())⟩ else(Z44.l0 R N n a b (w64 (c+1))))))) else some ⟨o_Z44,(true,())⟩):=(hw _ _).trans (by kernel_rfl)
theorem Z44.ev(R:Run)(N:Nat)(a0 a1:vK):qlw E R sg_Z44 pol_Z44 F_Z44 N [⟨yK,a0⟩,⟨yK,a1⟩]=(bif ((List.length a0:Int) != (List.length a1:Int)) then some ⟨o_Z44,(false,())⟩ else(Z44.l0 R N N a0 a1 (0:Int))):=by kernel_rfl
theorem Z42.ev(R:Run)(N:Nat)(a0 a1:vK):qlw E R sg_Z42 pol_Z42 F_Z42 N [⟨yK,a0⟩,⟨yK,a1⟩]=((qjK R n_Z44 o_Z44 [⟨yK,a0⟩,⟨yK,a1⟩]).bind fun r1=>(bif (!r1.1) then some ⟨o_Z42,(false,())⟩ else some ⟨o_Z42,(true,())⟩)):=by kernel_rfl
theorem Z45.ev(R:Run)(N:Nat)(a0 a1 a2:Int)(a3:List Int)(a4 a5 a6:Int)(a7:List Int):qlw E R sg_Z45 pol_Z45 F_Z45 N [⟨yI,a0⟩,⟨yI,a1⟩,⟨yI,a2⟩,⟨yL,a3⟩,⟨yI,a4⟩,⟨yI,a5⟩,⟨yI,a6⟩,⟨yL,a7⟩]=(bif (a0 != a4) then some ⟨o_Z45,(false,())⟩ else(bif (a1 != a5) then some ⟨o_Z45,(false,())⟩ else(bif (a2 != a6) then some ⟨o_Z45,(false,())⟩ else((qjK R n_Z43 o_Z43 [⟨yL,a3⟩,⟨yL,a7⟩]).bind fun r1=>(bif (!r1.1) then some ⟨o_Z45,(false,())⟩ else some ⟨o_Z45,(true,())⟩))))):=by kernel_rfl
def Z46.l0(R:Run)(N n:Nat)(a b:vN)(e:Int):Option Dv:=R.w (some ⟨(.c (.d yN a)::(.c (.d yN b)::(zd 3 (.c (.d yI e)::(zd 21 []))))),(zo 29 [])⟩) fun st=>lC R pol_Z46 4 N [1,1,0,1,0,0] F_Z46 n st (kB R pol_Z46 0 (kS R pol_Z46 8 N [1,1,1] F_Z46 (qlU E sg_Z46 F_Z46)))
theorem Z46.l0_succ(R:Run)(hw:R.ok)(N n:Nat)(a b:vN)(c:Int):Z46.l0 R N (n+1) a b c=(bif (decide (c<(List.length a:Int))) then((idx? a c).bind fun y4=>((idx? b c).bind fun y5=>((qjK R n_Z45 o_Z45 [⟨yI,y4.1⟩,⟨yI,y4.2.1⟩,⟨yI,y4.2.2.1⟩,⟨yL,y4.2.2.2.1⟩,⟨yI,y5.1⟩,⟨yI,y5.2.1⟩,⟨yI,y5.2.2.1⟩,⟨yL,y5.2.2.2.1⟩]).bind fun r6=>(bif (!r6.1) then some ⟨o_Z46,(false,())⟩ else(Z46.l0 R N n a b (w64 (c+1))))))) else some ⟨o_Z46,(true,())⟩):=(hw _ _).trans (by kernel_rfl)
theorem Z46.ev(R:Run)(N:Nat)(a0 a1:vN):qlw E R sg_Z46 pol_Z46 F_Z46 N [⟨yN,a0⟩,⟨yN,a1⟩]=(bif ((List.length a0:Int) != (List.length a1:Int)) then some ⟨o_Z46,(false,())⟩ else(Z46.l0 R N N a0 a1 (0:Int))):=by kernel_rfl
theorem Z47.ev(R:Run)(N:Nat)(a0:vK)(a1:Int)(a2:List Int)(a3:vN)(a4:vK)(a5:Int)(a6:List Int)(a7:vN):qlw E R sg_Z47 pol_Z47 F_Z47 N [⟨yK,a0⟩,⟨yI,a1⟩,⟨yL,a2⟩,⟨yN,a3⟩,⟨yK,a4⟩,⟨yI,a5⟩,⟨yL,a6⟩,⟨yN,a7⟩]=((qjK R n_Z42 o_Z42 [⟨yK,a0⟩,⟨yK,a4⟩]).bind fun r1=>(bif (!r1.1) then some ⟨o_Z47,(false,())⟩ else(bif (a1 != a5) then some ⟨o_Z47,(false,())⟩ else((qjK R n_Z43 o_Z43 [⟨yL,a2⟩,⟨yL,a6⟩]).bind fun r2=>(bif (!r2.1) then some ⟨o_Z47,(false,())⟩ else((qjK R n_Z46 o_Z46 [⟨yN,a3⟩,⟨yN,a7⟩]).bind fun r3=>(bif (!r3.1) then some ⟨o_Z47,(false,())⟩ else some ⟨o_Z47,(true,())⟩))))))):=by kernel_rfl
theorem Z41.ev(R:Run)(N:Nat)(a0:vK)(a1:Int)(a2:List Int)(a3:vN):qlw E R sg_Z41 pol_Z41 F_Z41 N [⟨yK,a0⟩,⟨yI,a1⟩,⟨yL,a2⟩,⟨yN,a3⟩]=((qjK R n_Z53 o_Z53 [⟨yK,a0⟩,⟨yI,a1⟩,⟨yL,a2⟩,⟨yN,a3⟩,⟨yI,(1048576:Int)⟩]).bind fun r1=>(bif (decide (r1.1<(0:Int))) then some ⟨o_Z41,(true,())⟩ else((qjK R n_Z59 o_Z59 [⟨yK,a0⟩,⟨yI,a1⟩,⟨yL,a2⟩,⟨yN,a3⟩]).bind fun r2=>((qjK R n_Z83 o_Z83 [⟨yK,r2.1⟩,⟨yI,r2.2.1⟩,⟨yL,r2.2.2.1⟩,⟨yN,r2.2.2.2.1⟩]).bind fun r3=>((qjK R n_Z59 o_Z59 [⟨yK,a0⟩,⟨yI,a1⟩,⟨yL,a2⟩,⟨yN,a3⟩]).bind fun r4=>((qjK R n_Z9 o_Z9 [⟨yK,r4.1⟩,⟨yI,r4.2.1⟩,⟨yL,r4.2.2.1⟩,⟨yN,r4.2.2.2.1⟩]).bind fun r5=>(bif (!(ByteArray.toList r5.1==ByteArray.toList r3.1)) then some ⟨o_Z41,(false,())⟩ else((qjK R n_Z59 o_Z59 [⟨yK,a0⟩,⟨yI,a1⟩,⟨yL,a2⟩,⟨yN,a3⟩]).bind fun r6=>((qjK R n_Z47 o_Z47 [⟨yK,r4.1⟩,⟨yI,r4.2.1⟩,⟨yL,r4.2.2.1⟩,⟨yN,r4.2.2.2.1⟩,⟨yK,r6.1⟩,⟨yI,r6.2.1⟩,⟨yL,r6.2.2.1⟩,⟨yN,r6.2.2.2.1⟩]).bind fun r7=>(bif (!r7.1) then some ⟨o_Z41,(false,())⟩ else some ⟨o_Z41,(true,())⟩)))))))))):=by kernel_rfl
end
end VeT
