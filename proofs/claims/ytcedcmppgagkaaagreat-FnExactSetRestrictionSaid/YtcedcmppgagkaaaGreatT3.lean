import Derived.Test.YtcedcmppgagkaaaGreatV2
import Derived.Test.YtcedcmppgagkaaaGreatProg
import Derived.KernelRfl
set_option linter.unusedVariables false
set_option linter.unusedSimpArgs false
open Go Go.Proofs Ve
set_option linter.unusedVariables false
set_option maxRecDepth 100000
namespace VeT
abbrev yM : Ty := .cons (.int .i64) (.cons (.int .i64) (.cons (.int .i64) (.cons (.sl (.int .i64)) .nil)))
abbrev yI : Ty := .int .i64
abbrev yL : Ty := .sl yI
abbrev yK : Ty := .sl yL
abbrev yN : Ty := .sl (.st yM)
abbrev yS : Ty := .cons yK (.cons yI (.cons yL (.cons yN .nil)))
abbrev vM := Int × Int × Int × List Int × Unit
abbrev vK := List (List Int)
abbrev vN := List vM
abbrev vS := vK × Int × List Int × vN × Unit
noncomputable def bodyOf (f:Func):Code := f.body.getD .skip
def zd:Nat → List Ve.V → List Ve.V
  | 0,t => t
  | n + 1,t => V.dead::zd n t
def zo:Nat → List (Option Ve.Obj) → List (Option Ve.Obj)
  | 0,t => t
  | n + 1,t => none::zo n t
@[reducible] def n_Z42:Nat := 5
@[reducible] def n_Z60:Nat := 7
@[reducible] def n_Z66:Nat := 9
@[reducible] def n_Z48:Nat := 11
@[reducible] def n_Z43:Nat := 12
@[reducible] def n_Z54:Nat := 13
@[reducible] def n_Z59:Nat := 14
@[reducible] def n_Z53:Nat := 15
@[reducible] def n_Z67:Nat := 17
@[reducible] def n_Z44:Nat := 19
@[reducible] def n_Z55:Nat := 20
@[reducible] def n_Z65:Nat := 21
@[reducible] def n_Z63:Nat := 22
@[reducible] def n_Z93:Nat := 23
@[reducible] def n_Z71:Nat := 24
@[reducible] def n_Z69:Nat := 25
@[reducible] def n_Z5:Nat := 26
@[reducible] def n_Z46:Nat := 27
@[reducible] def n_Z57:Nat := 28
@[reducible] def n_Z50:Nat := 31
@[reducible] def n_Z62:Nat := 32
@[reducible] def n_Z95:Nat := 34
@[reducible] def n_Z118:Nat := 36
@[reducible] def n_Z68:Nat := 37
@[reducible] def n_Z7:Nat := 38
@[reducible] def n_Z10:Nat := 39
@[reducible] def n_Z41:Nat := 40
@[reducible] def n_Z16:Nat := 41
@[reducible] def n_Z35:Nat := 43
@[reducible] def n_Z47:Nat := 46
@[reducible] def n_Z45:Nat := 47
@[reducible] def n_Z56:Nat := 48
@[reducible] def n_Z58:Nat := 49
@[reducible] def n_Z49:Nat := 50
@[reducible] def n_Z52:Nat := 51
@[reducible] def n_Z107:Nat := 52
@[reducible] def n_Z100:Nat := 53
@[reducible] def n_Z37:Nat := 56
@[reducible] def n_Z80:Nat := 57
@[reducible] def n_Z27:Nat := 60
@[reducible] def n_Z61:Nat := 62
@[reducible] def n_Z64:Nat := 63
@[reducible] def n_Z115:Nat := 64
@[reducible] def n_Z101:Nat := 65
@[reducible] def n_Z112:Nat := 66
@[reducible] def n_Z113:Nat := 67
@[reducible] def n_Z116:Nat := 68
@[reducible] def n_Z96:Nat := 69
@[reducible] def n_Z117:Nat := 70
@[reducible] def n_Z70:Nat := 71
@[reducible] def n_Z11:Nat := 72
@[reducible] def n_Z9:Nat := 73
@[reducible] def n_Z30:Nat := 74
@[reducible] def n_Z39:Nat := 75
@[reducible] def n_Z23:Nat := 76
@[reducible] def n_Z34:Nat := 77
@[reducible] def n_Z22:Nat := 78
@[reducible] def n_Z6:Nat := 79
@[reducible] def n_Z108:Nat := 89
@[reducible] def n_Z94:Nat := 90
@[reducible] def n_Z114:Nat := 91
@[reducible] def n_Z119:Nat := 93
@[reducible] def n_Z12:Nat := 94
@[reducible] def n_Z19:Nat := 95
@[reducible] def n_Z78:Nat := 96
@[reducible] def n_Z24:Nat := 97
@[reducible] def n_Z8:Nat := 98
@[reducible] def n_Z17:Nat := 99
@[reducible] def n_Z40:Nat := 100
@[reducible] def n_Z26:Nat := 101
@[reducible] def n_Z74:Nat := 102
@[reducible] def n_Z18:Nat := 103
@[reducible] def n_Z21:Nat := 104
@[reducible] def n_Z51:Nat := 107
@[reducible] def n_Z106:Nat := 108
@[reducible] def n_Z88:Nat := 109
@[reducible] def n_Z72:Nat := 110
@[reducible] def n_Z111:Nat := 111
@[reducible] def n_Z105:Nat := 112
@[reducible] def n_Z28:Nat := 113
@[reducible] def n_Z32:Nat := 114
@[reducible] def n_Z14:Nat := 115
@[reducible] def n_Z38:Nat := 116
@[reducible] def n_Z25:Nat := 117
@[reducible] def n_Z109:Nat := 123
@[reducible] def n_Z103:Nat := 124
@[reducible] def n_Z104:Nat := 125
@[reducible] def n_Z99:Nat := 126
@[reducible] def n_Z110:Nat := 127
@[reducible] def n_Z102:Nat := 128
@[reducible] def n_Z31:Nat := 129
@[reducible] def n_Z13:Nat := 130
@[reducible] def n_Z33:Nat := 131
@[reducible] def n_Z2:Nat := 132
@[reducible] def n_Z0:Nat := 133
@[reducible] def n_Z76:Nat := 134
@[reducible] def n_Z86:Nat := 135
@[reducible] def n_Z77:Nat := 136
@[reducible] def n_Z20:Nat := 137
@[reducible] def n_Z92:Nat := 138
@[reducible] def n_Z75:Nat := 139
@[reducible] def n_Z84:Nat := 140
@[reducible] def n_Z98:Nat := 141
@[reducible] def n_Z15:Nat := 142
@[reducible] def n_Z29:Nat := 143
@[reducible] def n_Z97:Nat := 160
@[reducible] def n_Z3:Nat := 161
@[reducible] def n_Z1:Nat := 162
@[reducible] def n_Z85:Nat := 163
@[reducible] def n_Z4:Nat := 186
@[reducible] noncomputable def F_Z42:Func := Tryz.f5
@[reducible] noncomputable def F_Z60:Func := Tryz.f7
@[reducible] noncomputable def F_Z66:Func := Tryz.f9
@[reducible] noncomputable def F_Z48:Func := Tryz.f11
@[reducible] noncomputable def F_Z43:Func := Tryz.f12
@[reducible] noncomputable def F_Z54:Func := Tryz.f13
@[reducible] noncomputable def F_Z59:Func := Tryz.f14
@[reducible] noncomputable def F_Z53:Func := Tryz.f15
@[reducible] noncomputable def F_Z67:Func := Tryz.f17
@[reducible] noncomputable def F_Z44:Func := Tryz.f19
@[reducible] noncomputable def F_Z55:Func := Tryz.f20
@[reducible] noncomputable def F_Z65:Func := Tryz.f21
@[reducible] noncomputable def F_Z63:Func := Tryz.f22
@[reducible] noncomputable def F_Z93:Func := Tryz.f23
@[reducible] noncomputable def F_Z71:Func := Tryz.f24
@[reducible] noncomputable def F_Z69:Func := Tryz.f25
@[reducible] noncomputable def F_Z5:Func := Tryz.f26
@[reducible] noncomputable def F_Z46:Func := Tryz.f27
@[reducible] noncomputable def F_Z57:Func := Tryz.f28
@[reducible] noncomputable def F_Z50:Func := Tryz.f31
@[reducible] noncomputable def F_Z62:Func := Tryz.f32
@[reducible] noncomputable def F_Z95:Func := Tryz.f34
@[reducible] noncomputable def F_Z118:Func := Tryz.f36
@[reducible] noncomputable def F_Z68:Func := Tryz.f37
@[reducible] noncomputable def F_Z7:Func := Tryz.f38
@[reducible] noncomputable def F_Z10:Func := Tryz.f39
@[reducible] noncomputable def F_Z41:Func := Tryz.f40
@[reducible] noncomputable def F_Z16:Func := Tryz.f41
@[reducible] noncomputable def F_Z35:Func := Tryz.f43
@[reducible] noncomputable def F_Z47:Func := Tryz.f46
@[reducible] noncomputable def F_Z45:Func := Tryz.f47
@[reducible] noncomputable def F_Z56:Func := Tryz.f48
@[reducible] noncomputable def F_Z58:Func := Tryz.f49
@[reducible] noncomputable def F_Z49:Func := Tryz.f50
@[reducible] noncomputable def F_Z52:Func := Tryz.f51
@[reducible] noncomputable def F_Z107:Func := Tryz.f52
@[reducible] noncomputable def F_Z100:Func := Tryz.f53
@[reducible] noncomputable def F_Z37:Func := Tryz.f56
@[reducible] noncomputable def F_Z80:Func := Tryz.f57
@[reducible] noncomputable def F_Z27:Func := Tryz.f60
@[reducible] noncomputable def F_Z61:Func := Tryz.f62
@[reducible] noncomputable def F_Z64:Func := Tryz.f63
@[reducible] noncomputable def F_Z115:Func := Tryz.f64
@[reducible] noncomputable def F_Z101:Func := Tryz.f65
@[reducible] noncomputable def F_Z112:Func := Tryz.f66
@[reducible] noncomputable def F_Z113:Func := Tryz.f67
@[reducible] noncomputable def F_Z116:Func := Tryz.f68
@[reducible] noncomputable def F_Z96:Func := Tryz.f69
@[reducible] noncomputable def F_Z117:Func := Tryz.f70
@[reducible] noncomputable def F_Z70:Func := Tryz.f71
@[reducible] noncomputable def F_Z11:Func := Tryz.f72
@[reducible] noncomputable def F_Z9:Func := Tryz.f73
@[reducible] noncomputable def F_Z30:Func := Tryz.f74
@[reducible] noncomputable def F_Z39:Func := Tryz.f75
@[reducible] noncomputable def F_Z23:Func := Tryz.f76
@[reducible] noncomputable def F_Z34:Func := Tryz.f77
@[reducible] noncomputable def F_Z22:Func := Tryz.f78
@[reducible] noncomputable def F_Z6:Func := Tryz.f79
@[reducible] noncomputable def F_Z108:Func := Tryz.f89
@[reducible] noncomputable def F_Z94:Func := Tryz.f90
@[reducible] noncomputable def F_Z114:Func := Tryz.f91
@[reducible] noncomputable def F_Z119:Func := Tryz.f93
@[reducible] noncomputable def F_Z12:Func := Tryz.f94
@[reducible] noncomputable def F_Z19:Func := Tryz.f95
@[reducible] noncomputable def F_Z78:Func := Tryz.f96
@[reducible] noncomputable def F_Z24:Func := Tryz.f97
@[reducible] noncomputable def F_Z8:Func := Tryz.f98
@[reducible] noncomputable def F_Z17:Func := Tryz.f99
@[reducible] noncomputable def F_Z40:Func := Tryz.f100
@[reducible] noncomputable def F_Z26:Func := Tryz.f101
@[reducible] noncomputable def F_Z74:Func := Tryz.f102
@[reducible] noncomputable def F_Z18:Func := Tryz.f103
@[reducible] noncomputable def F_Z21:Func := Tryz.f104
@[reducible] noncomputable def F_Z51:Func := Tryz.f107
@[reducible] noncomputable def F_Z106:Func := Tryz.f108
@[reducible] noncomputable def F_Z88:Func := Tryz.f109
@[reducible] noncomputable def F_Z72:Func := Tryz.f110
@[reducible] noncomputable def F_Z111:Func := Tryz.f111
@[reducible] noncomputable def F_Z105:Func := Tryz.f112
@[reducible] noncomputable def F_Z28:Func := Tryz.f113
@[reducible] noncomputable def F_Z32:Func := Tryz.f114
@[reducible] noncomputable def F_Z14:Func := Tryz.f115
@[reducible] noncomputable def F_Z38:Func := Tryz.f116
@[reducible] noncomputable def F_Z25:Func := Tryz.f117
@[reducible] noncomputable def F_Z109:Func := Tryz.f123
@[reducible] noncomputable def F_Z103:Func := Tryz.f124
@[reducible] noncomputable def F_Z104:Func := Tryz.f125
@[reducible] noncomputable def F_Z99:Func := Tryz.f126
@[reducible] noncomputable def F_Z110:Func := Tryz.f127
@[reducible] noncomputable def F_Z102:Func := Tryz.f128
@[reducible] noncomputable def F_Z31:Func := Tryz.f129
@[reducible] noncomputable def F_Z13:Func := Tryz.f130
@[reducible] noncomputable def F_Z33:Func := Tryz.f131
@[reducible] noncomputable def F_Z2:Func := Tryz.f132
@[reducible] noncomputable def F_Z0:Func := Tryz.f133
@[reducible] noncomputable def F_Z76:Func := Tryz.f134
@[reducible] noncomputable def F_Z86:Func := Tryz.f135
@[reducible] noncomputable def F_Z77:Func := Tryz.f136
@[reducible] noncomputable def F_Z20:Func := Tryz.f137
@[reducible] noncomputable def F_Z92:Func := Tryz.f138
@[reducible] noncomputable def F_Z75:Func := Tryz.f139
@[reducible] noncomputable def F_Z84:Func := Tryz.f140
@[reducible] noncomputable def F_Z98:Func := Tryz.f141
@[reducible] noncomputable def F_Z15:Func := Tryz.f142
@[reducible] noncomputable def F_Z29:Func := Tryz.f143
@[reducible] noncomputable def F_Z97:Func := Tryz.f160
@[reducible] noncomputable def F_Z3:Func := Tryz.f161
@[reducible] noncomputable def F_Z1:Func := Tryz.f162
@[reducible] noncomputable def F_Z85:Func := Tryz.f163
@[reducible] noncomputable def F_Z4:Func := Tryz.f186
@[reducible] def o_Z42:Ty := (.cons .bool .nil)
noncomputable def sg_Z42:Sig := ⟨[(true,4),(false,1),(false,1),(true,4)],[],o_Z42,[(false,1)],[],[]⟩
@[reducible] def o_Z60:Ty := (.cons yI .nil)
noncomputable def sg_Z60:Sig := ⟨[(true,1),(false,1)],[],o_Z60,[(false,1)],[],[]⟩
@[reducible] def o_Z66:Ty := (.cons yK .nil)
noncomputable def sg_Z66:Sig := ⟨[(true,1)],[],o_Z66,[(true,1)],[.deep],[]⟩
@[reducible] def o_Z48:Ty := (.cons .bool .nil)
noncomputable def sg_Z48:Sig := ⟨[(true,4),(true,4)],[],o_Z48,[(false,1)],[],[]⟩
@[reducible] def o_Z43:Ty := (.cons .bool .nil)
noncomputable def sg_Z43:Sig := ⟨[(true,1),(true,1)],[],o_Z43,[(false,1)],[],[]⟩
@[reducible] def o_Z54:Ty := (.cons yI (.cons yK .nil))
noncomputable def sg_Z54:Sig := ⟨[(true,1),(false,1)],[.io true,.imm],o_Z54,[(false,1)],[],[]⟩
@[reducible] def o_Z59:Ty := (.cons yI (.cons yK (.cons yL (.cons yN .nil))))
noncomputable def sg_Z59:Sig := ⟨[(true,4),(false,1)],[.io true,.imm,.io true,.io true,.imm],o_Z59,[(false,1)],[],[]⟩
@[reducible] def o_Z53:Ty := (.cons yI .nil)
noncomputable def sg_Z53:Sig := ⟨[(true,4),(false,1)],[],o_Z53,[(false,1)],[],[]⟩
@[reducible] def o_Z67:Ty := (.cons yL .nil)
noncomputable def sg_Z67:Sig := ⟨[(false,1)],[],o_Z67,[(false,1)],[.deep],[]⟩
@[reducible] def o_Z44:Ty := (.cons .bool .nil)
noncomputable def sg_Z44:Sig := ⟨[(false,1),(false,1)],[],o_Z44,[(false,1)],[],[]⟩
@[reducible] def o_Z55:Ty := (.cons yI (.cons yL .nil))
noncomputable def sg_Z55:Sig := ⟨[(false,1),(false,1)],[.io true,.imm],o_Z55,[(false,1)],[],[]⟩
@[reducible] def o_Z65:Ty := (.cons yI .nil)
noncomputable def sg_Z65:Sig := ⟨[(true,4),(false,1)],[],o_Z65,[(false,1)],[],[]⟩
@[reducible] def o_Z63:Ty := (.cons yI .nil)
noncomputable def sg_Z63:Sig := ⟨[(true,4),(false,1)],[],o_Z63,[(false,1)],[],[]⟩
@[reducible] def o_Z93:Ty := (.cons yK (.cons yI (.cons yL (.cons yN (.cons yI .nil)))))
noncomputable def sg_Z93:Sig := ⟨[(true,4),(false,1),(false,1),(true,4)],[],o_Z93,[(true,4),(false,1)],[.deep,.imm,.deep,.deep,.imm],[]⟩
@[reducible] def o_Z71:Ty := yS
noncomputable def sg_Z71:Sig := ⟨[(true,4)],[],o_Z71,[(true,4)],[.deep,.imm,.deep,.deep],[]⟩
@[reducible] def o_Z69:Ty := yM
noncomputable def sg_Z69:Sig := ⟨[(true,4)],[],o_Z69,[(true,4)],[.imm,.imm,.imm,.deep],[]⟩
@[reducible] def o_Z5:Ty := (.cons yK (.cons yI (.cons yL (.cons yN (.cons yI .nil)))))
noncomputable def sg_Z5:Sig := ⟨[(true,4),(false,1),(false,1),(true,4)],[],o_Z5,[(true,4),(false,1)],[.deep,.imm,.deep,.deep,.imm],[]⟩
@[reducible] def o_Z46:Ty := (.cons .bool .nil)
noncomputable def sg_Z46:Sig := ⟨[(true,4),(true,4)],[],o_Z46,[(false,1)],[],[]⟩
@[reducible] def o_Z57:Ty := (.cons yI (.cons yL .nil))
noncomputable def sg_Z57:Sig := ⟨[(true,4),(false,1)],[.imm,.imm,.imm,.io true,.imm],o_Z57,[(false,1)],[],[]⟩
@[reducible] def o_Z50:Ty := (.cons yI .nil)
noncomputable def sg_Z50:Sig := ⟨[(false,1),(false,1)],[],o_Z50,[(false,1)],[],[]⟩
@[reducible] def o_Z62:Ty := (.cons yI .nil)
noncomputable def sg_Z62:Sig := ⟨[(false,1),(false,1)],[],o_Z62,[(false,1)],[],[]⟩
@[reducible] def o_Z95:Ty := (.cons .bool .nil)
noncomputable def sg_Z95:Sig := ⟨[(false,1),(false,1),(false,1)],[],o_Z95,[(false,1)],[],[]⟩
@[reducible] def o_Z118:Ty := (.cons .bool .nil)
noncomputable def sg_Z118:Sig := ⟨[(false,1),(false,1)],[],o_Z118,[(false,1)],[],[(.ptr (.cons yK .nil))]⟩
@[reducible] def o_Z68:Ty := (.cons yK .nil)
noncomputable def sg_Z68:Sig := ⟨[(false,1)],[],o_Z68,[(false,1)],[.deep],[]⟩
@[reducible] def o_Z7:Ty := (.cons .bool .nil)
noncomputable def sg_Z7:Sig := ⟨[(true,1)],[],o_Z7,[(false,1)],[],[]⟩
@[reducible] def o_Z10:Ty := (.cons .bool .nil)
noncomputable def sg_Z10:Sig := ⟨[(false,1)],[],o_Z10,[(false,1)],[],[]⟩
@[reducible] def o_Z41:Ty := (.cons .bool .nil)
noncomputable def sg_Z41:Sig := ⟨[(false,1),(false,1),(false,1)],[],o_Z41,[(false,1)],[],[]⟩
@[reducible] def o_Z16:Ty := (.cons .bool .nil)
noncomputable def sg_Z16:Sig := ⟨[(true,1),(false,1)],[],o_Z16,[(false,1)],[],[]⟩
@[reducible] def o_Z35:Ty := yS
noncomputable def sg_Z35:Sig := ⟨[(true,1),(false,1),(false,1),(false,1)],[],o_Z35,[(true,4)],[.deep,.imm,.deep,.deep],[]⟩
@[reducible] def o_Z47:Ty := (.cons .bool .nil)
noncomputable def sg_Z47:Sig := ⟨[(false,1),(false,1)],[],o_Z47,[(false,1)],[],[]⟩
@[reducible] def o_Z45:Ty := (.cons .bool .nil)
noncomputable def sg_Z45:Sig := ⟨[(false,1),(false,1)],[],o_Z45,[(false,1)],[],[]⟩
@[reducible] def o_Z56:Ty := (.cons yI (.cons yK .nil))
noncomputable def sg_Z56:Sig := ⟨[(false,1),(false,1)],[.io true,.imm],o_Z56,[(false,1)],[],[]⟩
@[reducible] def o_Z58:Ty := (.cons yI (.cons yN .nil))
noncomputable def sg_Z58:Sig := ⟨[(false,1),(false,1)],[.io true,.imm],o_Z58,[(false,1)],[],[]⟩
@[reducible] def o_Z49:Ty := (.cons yI .nil)
noncomputable def sg_Z49:Sig := ⟨[(true,1),(false,1)],[],o_Z49,[(false,1)],[],[]⟩
@[reducible] def o_Z52:Ty := (.cons yI .nil)
noncomputable def sg_Z52:Sig := ⟨[(false,1),(false,1)],[],o_Z52,[(false,1)],[],[]⟩
@[reducible] def o_Z107:Ty := (.cons yL .nil)
noncomputable def sg_Z107:Sig := ⟨[(false,1),(false,1)],[],o_Z107,[(false,1)],[.deep],[(.ptr (.cons yK .nil))]⟩
@[reducible] def o_Z100:Ty := (.cons .bool .nil)
noncomputable def sg_Z100:Sig := ⟨[(false,1),(false,1),(false,1)],[],o_Z100,[(false,1)],[],[]⟩
@[reducible] def o_Z37:Ty := (.cons yL .nil)
noncomputable def sg_Z37:Sig := ⟨[(true,1),(false,1)],[],o_Z37,[(false,1)],[.deep],[]⟩
@[reducible] def o_Z80:Ty := (.cons .bool .nil)
noncomputable def sg_Z80:Sig := ⟨[(false,1),(false,1)],[],o_Z80,[(false,1)],[],[]⟩
@[reducible] def o_Z27:Ty := (.cons yI .nil)
noncomputable def sg_Z27:Sig := ⟨[(true,1),(false,1)],[],o_Z27,[(false,1)],[],[]⟩
@[reducible] def o_Z61:Ty := (.cons yI .nil)
noncomputable def sg_Z61:Sig := ⟨[(false,1),(false,1)],[],o_Z61,[(false,1)],[],[]⟩
@[reducible] def o_Z64:Ty := (.cons yI .nil)
noncomputable def sg_Z64:Sig := ⟨[(false,1),(false,1)],[],o_Z64,[(false,1)],[],[]⟩
@[reducible] def o_Z115:Ty := (.cons .bool .nil)
noncomputable def sg_Z115:Sig := ⟨[(false,1)],[],o_Z115,[(false,1)],[],[(.ptr yS)]⟩
@[reducible] def o_Z101:Ty := (.cons .bool .nil)
noncomputable def sg_Z101:Sig := ⟨[(false,1)],[],o_Z101,[(false,1)],[],[(.ptr yM)]⟩
@[reducible] def o_Z112:Ty := (.cons .bool .nil)
noncomputable def sg_Z112:Sig := ⟨[(false,1),(false,1)],[],o_Z112,[(false,1)],[],[(.ptr yS)]⟩
@[reducible] def o_Z113:Ty := (.cons .bool .nil)
noncomputable def sg_Z113:Sig := ⟨[(false,1),(false,1),(false,1),(false,1)],[],o_Z113,[(false,1)],[],[(.ptr yS),.nil,.nil,(.ptr yM)]⟩
@[reducible] def o_Z116:Ty := yS
noncomputable def sg_Z116:Sig := ⟨[(false,1)],[],o_Z116,[(true,4)],[.deep,.imm,.deep,.deep],[(.ptr yS)]⟩
@[reducible] def o_Z96:Ty := (.cons yL .nil)
noncomputable def sg_Z96:Sig := ⟨[(false,1)],[],o_Z96,[(false,1)],[.deep],[]⟩
@[reducible] def o_Z117:Ty := (.cons yI .nil)
noncomputable def sg_Z117:Sig := ⟨[(false,1),(false,1),(false,1)],[],o_Z117,[(false,1)],[],[(.ptr (.cons yK .nil))]⟩
@[reducible] def o_Z70:Ty := (.cons yN .nil)
noncomputable def sg_Z70:Sig := ⟨[(false,1)],[],o_Z70,[(false,1)],[.deep],[]⟩
@[reducible] def o_Z11:Ty := (.cons .bool .nil)
noncomputable def sg_Z11:Sig := ⟨[(true,4)],[],o_Z11,[(false,1)],[],[]⟩
@[reducible] def o_Z9:Ty := (.cons .bool .nil)
noncomputable def sg_Z9:Sig := ⟨[(true,4)],[],o_Z9,[(false,1)],[],[]⟩
@[reducible] def o_Z30:Ty := (.cons .bool .nil)
noncomputable def sg_Z30:Sig := ⟨[(true,4),(false,1)],[],o_Z30,[(false,1)],[],[]⟩
@[reducible] def o_Z39:Ty := (.cons yI .nil)
noncomputable def sg_Z39:Sig := ⟨[(false,1)],[],o_Z39,[(false,1)],[],[]⟩
@[reducible] def o_Z23:Ty := (.cons yL .nil)
noncomputable def sg_Z23:Sig := ⟨[(true,1),(false,1)],[],o_Z23,[(false,1)],[.deep],[]⟩
@[reducible] def o_Z34:Ty := (.cons .bool .nil)
noncomputable def sg_Z34:Sig := ⟨[(true,4),(true,4)],[],o_Z34,[(false,1)],[],[]⟩
@[reducible] def o_Z22:Ty := yM
noncomputable def sg_Z22:Sig := ⟨[(true,4),(false,1),(false,1)],[],o_Z22,[(true,4)],[],[]⟩
@[reducible] def o_Z6:Ty := yM
noncomputable def sg_Z6:Sig := ⟨[(true,3),(false,1),(false,1),(false,1),(false,1)],[],o_Z6,[(true,4)],[],[.nil,.nil,.nil,(.ptr (.cons yI .nil)),(.ptr (.cons yI .nil)),(.ptr yM),(.ptr yS)]⟩
@[reducible] def o_Z108:Ty := (.cons .bool .nil)
noncomputable def sg_Z108:Sig := ⟨[(false,1)],[],o_Z108,[(false,1)],[],[(.ptr (.cons yK .nil))]⟩
@[reducible] def o_Z94:Ty := (.cons .bool .nil)
noncomputable def sg_Z94:Sig := ⟨[(false,1)],[],o_Z94,[(false,1)],[],[]⟩
@[reducible] def o_Z114:Ty := yS
noncomputable def sg_Z114:Sig := ⟨[(false,1),(false,1),(false,1)],[],o_Z114,[(true,4)],[.deep,.imm,.deep,.deep],[(.ptr (.cons yK .nil))]⟩
@[reducible] def o_Z119:Ty := (.cons yI .nil)
noncomputable def sg_Z119:Sig := ⟨[(false,1),(false,1),(false,1)],[],o_Z119,[(false,1)],[],[(.ptr (.cons yK .nil))]⟩
@[reducible] def o_Z12:Ty := (.cons .bool .nil)
noncomputable def sg_Z12:Sig := ⟨[(false,1)],[],o_Z12,[(false,1)],[],[]⟩
@[reducible] def o_Z19:Ty := (.cons yI .nil)
noncomputable def sg_Z19:Sig := ⟨[(false,1),(false,1)],[],o_Z19,[(false,1)],[],[]⟩
@[reducible] def o_Z78:Ty := (.cons .bool .nil)
noncomputable def sg_Z78:Sig := ⟨[(false,1),(false,1)],[],o_Z78,[(false,1)],[],[]⟩
@[reducible] def o_Z24:Ty := (.cons yK .nil)
noncomputable def sg_Z24:Sig := ⟨[(false,1)],[],o_Z24,[(false,1)],[.deep],[]⟩
@[reducible] def o_Z8:Ty := (.cons .bool .nil)
noncomputable def sg_Z8:Sig := ⟨[(false,1),(false,1),(false,1)],[],o_Z8,[(false,1)],[],[.nil,(.ptr (.cons yK .nil)),(.ptr (.cons yI .nil))]⟩
@[reducible] def o_Z17:Ty := (.cons .bool .nil)
noncomputable def sg_Z17:Sig := ⟨[(false,1)],[],o_Z17,[(false,1)],[],[]⟩
@[reducible] def o_Z40:Ty := (.cons yI .nil)
noncomputable def sg_Z40:Sig := ⟨[(true,4),(false,1)],[],o_Z40,[(false,1)],[],[]⟩
@[reducible] def o_Z26:Ty := (.cons yK .nil)
noncomputable def sg_Z26:Sig := ⟨[(false,1)],[],o_Z26,[(true,1)],[.deep],[]⟩
@[reducible] def o_Z74:Ty := (.cons yL .nil)
noncomputable def sg_Z74:Sig := ⟨[(false,1)],[],o_Z74,[(false,1)],[.deep],[]⟩
@[reducible] def o_Z18:Ty := (.cons (.sl (.st (.cons yI (.cons yI (.cons yI .nil))))) .nil)
noncomputable def sg_Z18:Sig := ⟨[(true,1)],[],o_Z18,[(false,1)],[.deep],[]⟩
@[reducible] def o_Z21:Ty := yM
noncomputable def sg_Z21:Sig := ⟨[(true,4)],[],o_Z21,[(true,4)],[.imm,.imm,.imm,.deep],[]⟩
@[reducible] def o_Z51:Ty := (.cons yI .nil)
noncomputable def sg_Z51:Sig := ⟨[(false,1),(false,1)],[],o_Z51,[(false,1)],[],[]⟩
@[reducible] def o_Z106:Ty := (.cons yI .nil)
noncomputable def sg_Z106:Sig := ⟨[(false,1),(false,1)],[],o_Z106,[(false,1)],[],[(.ptr (.cons yK .nil))]⟩
@[reducible] def o_Z88:Ty := (.cons yI .nil)
noncomputable def sg_Z88:Sig := ⟨[(false,1),(false,1)],[],o_Z88,[(false,1)],[],[]⟩
@[reducible] def o_Z72:Ty := (.cons yI (.cons .bool .nil))
noncomputable def sg_Z72:Sig := ⟨[(false,1),(false,1),(false,1)],[],o_Z72,[(false,1),(false,1)],[],[]⟩
@[reducible] def o_Z111:Ty := (.cons yI .nil)
noncomputable def sg_Z111:Sig := ⟨[(false,1)],[],o_Z111,[(false,1)],[],[(.ptr (.cons yK .nil))]⟩
@[reducible] def o_Z105:Ty := (.cons yL .nil)
noncomputable def sg_Z105:Sig := ⟨[(false,1),(false,1)],[],o_Z105,[(false,1)],[.deep],[(.ptr (.cons yK .nil))]⟩
@[reducible] def o_Z28:Ty := (.cons .bool .nil)
noncomputable def sg_Z28:Sig := ⟨[(true,4),(false,1),(false,1),(false,1)],[],o_Z28,[(false,1)],[],[]⟩
@[reducible] def o_Z32:Ty := (.cons .bool .nil)
noncomputable def sg_Z32:Sig := ⟨[(false,1)],[],o_Z32,[(false,1)],[],[]⟩
@[reducible] def o_Z14:Ty := (.cons .bool .nil)
noncomputable def sg_Z14:Sig := ⟨[(false,1),(false,1)],[],o_Z14,[(false,1)],[],[]⟩
@[reducible] def o_Z38:Ty := (.cons yI .nil)
noncomputable def sg_Z38:Sig := ⟨[(false,1)],[],o_Z38,[(false,1)],[],[]⟩
@[reducible] def o_Z25:Ty := (.cons yI .nil)
noncomputable def sg_Z25:Sig := ⟨[(true,4),(false,1)],[],o_Z25,[(false,1)],[],[]⟩
@[reducible] def o_Z109:Ty := (.cons .bool .nil)
noncomputable def sg_Z109:Sig := ⟨[(false,1)],[],o_Z109,[(false,1)],[],[]⟩
@[reducible] def o_Z103:Ty := (.cons .bool .nil)
noncomputable def sg_Z103:Sig := ⟨[(false,1),(false,1)],[],o_Z103,[(false,1)],[],[]⟩
@[reducible] def o_Z104:Ty := (.cons yL .nil)
noncomputable def sg_Z104:Sig := ⟨[(false,1),(false,1)],[],o_Z104,[(false,1)],[.deep],[]⟩
@[reducible] def o_Z99:Ty := (.cons .bool .nil)
noncomputable def sg_Z99:Sig := ⟨[(false,1)],[],o_Z99,[(false,1)],[],[]⟩
@[reducible] def o_Z110:Ty := (.cons yK .nil)
noncomputable def sg_Z110:Sig := ⟨[(false,1),(false,1)],[],o_Z110,[(true,1)],[.deep],[(.ptr (.cons yK .nil))]⟩
@[reducible] def o_Z102:Ty := yM
noncomputable def sg_Z102:Sig := ⟨[(false,1),(false,1),(false,1)],[],o_Z102,[(true,4)],[.imm,.imm,.imm,.deep],[]⟩
@[reducible] def o_Z31:Ty := (.cons .bool .nil)
noncomputable def sg_Z31:Sig := ⟨[(false,1)],[],o_Z31,[(false,1)],[],[]⟩
@[reducible] def o_Z13:Ty := (.cons .bool .nil)
noncomputable def sg_Z13:Sig := ⟨[(false,1)],[],o_Z13,[(false,1)],[],[]⟩
@[reducible] def o_Z33:Ty := (.cons .bool .nil)
noncomputable def sg_Z33:Sig := ⟨[(false,1)],[],o_Z33,[(false,1)],[],[]⟩
@[reducible] def o_Z2:Ty := (.cons yI .nil)
noncomputable def sg_Z2:Sig := ⟨[(false,1)],[],o_Z2,[(false,1)],[],[]⟩
@[reducible] def o_Z0:Ty := (.cons yI .nil)
noncomputable def sg_Z0:Sig := ⟨[(false,1),(false,1)],[],o_Z0,[(false,1)],[],[]⟩
@[reducible] def o_Z76:Ty := (.cons yI .nil)
noncomputable def sg_Z76:Sig := ⟨[(false,1),(false,1)],[],o_Z76,[(false,1)],[],[]⟩
@[reducible] def o_Z86:Ty := (.cons yI .nil)
noncomputable def sg_Z86:Sig := ⟨[(false,1),(false,1)],[],o_Z86,[(false,1)],[],[]⟩
@[reducible] def o_Z77:Ty := (.cons yL .nil)
noncomputable def sg_Z77:Sig := ⟨[(false,1)],[],o_Z77,[(false,1)],[.deep],[]⟩
@[reducible] def o_Z20:Ty := (.cons yK .nil)
noncomputable def sg_Z20:Sig := ⟨[(false,1)],[],o_Z20,[(false,1)],[.deep],[]⟩
@[reducible] def o_Z92:Ty := (.cons yK .nil)
noncomputable def sg_Z92:Sig := ⟨[(false,1),(false,1)],[.io true,.imm],o_Z92,[],[],[]⟩
@[reducible] def o_Z75:Ty := (.cons yK .nil)
noncomputable def sg_Z75:Sig := ⟨[(false,1),(false,1)],[.take true,.imm],o_Z75,[(false,1)],[.deep],[]⟩
@[reducible] def o_Z84:Ty := (.cons .bool .nil)
noncomputable def sg_Z84:Sig := ⟨[(false,1),(false,1)],[],o_Z84,[(false,1)],[],[]⟩
@[reducible] def o_Z98:Ty := (.cons .bool .nil)
noncomputable def sg_Z98:Sig := ⟨[(false,1),(false,1)],[],o_Z98,[(false,1)],[],[]⟩
@[reducible] def o_Z15:Ty := (.cons .bool .nil)
noncomputable def sg_Z15:Sig := ⟨[(false,1),(false,1)],[],o_Z15,[(false,1)],[],[.nil,(.ptr (.cons yI .nil))]⟩
@[reducible] def o_Z29:Ty := (.cons .bool .nil)
noncomputable def sg_Z29:Sig := ⟨[(false,1),(false,1)],[],o_Z29,[(false,1)],[],[]⟩
@[reducible] def o_Z97:Ty := (.cons .bool .nil)
noncomputable def sg_Z97:Sig := ⟨[(false,1),(false,1),(false,1)],[],o_Z97,[(false,1)],[],[]⟩
@[reducible] def o_Z3:Ty := (.cons .bool .nil)
noncomputable def sg_Z3:Sig := ⟨[(false,1)],[],o_Z3,[(false,1)],[],[]⟩
@[reducible] def o_Z1:Ty := (.cons yI .nil)
noncomputable def sg_Z1:Sig := ⟨[(false,1),(false,1)],[],o_Z1,[(false,1)],[],[]⟩
@[reducible] def o_Z85:Ty := (.cons yL .nil)
noncomputable def sg_Z85:Sig := ⟨[(false,1),(false,1)],[.take true,.imm],o_Z85,[(false,1)],[.deep],[]⟩
@[reducible] def o_Z4:Ty := (.cons .bool .nil)
noncomputable def sg_Z4:Sig := ⟨[(false,1)],[],o_Z4,[(false,1)],[],[]⟩
noncomputable def pol_Z42:Pol := ⟨146,[(42,[some 139,none,some 140,some 141]),(44,[none,none,none,some 142]),(50,[some 143,none,some 144,some 145])],[],[],[(9,⟨[1,2,4,7,10,11],[4,7,10],[],[],[],[],[]⟩),(32,⟨[10,11,14,17,19,20],[10,14,19,143,144,145],[],[],[],[],[]⟩),(1000061,⟨[1,2,4,7,10,11,12,13,14,15,61],[4,7,10,12,13,14,139,140,141,142,143,144,145],[],[],[],[],[]⟩),(1000090,⟨[1,2,4,7,10,11,14,90],[4,7,10,14,143,144,145],[],[],[],[],[]⟩),(1000120,⟨[14,17,120],[14,143,144,145],[],[],[],[],[]⟩)],[]⟩
noncomputable def pol_Z60:Pol := ⟨14,[],[],[],[],[]⟩
noncomputable def pol_Z66:Pol := ⟨11,[(6,[some 10])],[],[],[],[]⟩
noncomputable def pol_Z48:Pol := ⟨36,[],[],[],[],[]⟩
noncomputable def pol_Z43:Pol := ⟨13,[],[],[],[],[]⟩
noncomputable def pol_Z54:Pol := ⟨12,[],[],[],[],[]⟩
noncomputable def pol_Z59:Pol := ⟨23,[],[],[],[],[]⟩
noncomputable def pol_Z53:Pol := ⟨29,[],[],[],[],[]⟩
noncomputable def pol_Z67:Pol := ⟨23,[],[(3,⟨[0,3,4],[7],[],[],[],[],[]⟩)],[],[],[]⟩
noncomputable def pol_Z44:Pol := ⟨28,[],[(4,⟨[0,1,5],[],[],[],[],[],[]⟩)],[],[],[]⟩
noncomputable def pol_Z55:Pol := ⟨21,[],[(2,⟨[0,1,5],[19],[],[],[],[],[]⟩)],[],[],[]⟩
noncomputable def pol_Z65:Pol := ⟨29,[],[],[],[],[]⟩
noncomputable def pol_Z63:Pol := ⟨17,[],[],[],[],[]⟩
noncomputable def pol_Z93:Pol := ⟨77,[(50,[some 75,none,some 76,some 73]),(59,[some 74])],[],[],[(1000016,⟨[1,2,4,7,8,16],[4,7,8],[],[],[],[],[]⟩),(1000043,⟨[1,2,4,7,8,43],[4,7,8],[],[],[],[],[]⟩)],[]⟩
noncomputable def pol_Z71:Pol := ⟨27,[(6,[some 24]),(13,[some 25]),(17,[some 26])],[],[],[],[]⟩
noncomputable def pol_Z69:Pol := ⟨23,[(15,[some 22])],[],[],[],[]⟩
noncomputable def pol_Z5:Pol := ⟨64,[(50,[some 61,none,some 62,some 63])],[],[],[(1000017,⟨[4,5,6,7,8,17],[4,5,6,7,8],[],[],[],[],[]⟩),(1000033,⟨[4,5,6,7,8,33],[4,5,6,7,8],[],[],[],[],[]⟩)],[]⟩
noncomputable def pol_Z46:Pol := ⟨34,[],[],[],[],[]⟩
noncomputable def pol_Z57:Pol := ⟨15,[],[],[],[],[]⟩
noncomputable def pol_Z50:Pol := ⟨23,[],[(2,⟨[0,1,5],[],[],[],[],[],[]⟩)],[],[],[]⟩
noncomputable def pol_Z62:Pol := ⟨29,[],[(5,⟨[0,1,5],[],[],[],[],[],[]⟩)],[],[],[]⟩
noncomputable def pol_Z95:Pol := ⟨18,[],[],[],[],[]⟩
noncomputable def pol_Z118:Pol := ⟨25,[],[(4,⟨[0,1,5],[],[],[],[],[],[]⟩)],[],[],[]⟩
noncomputable def pol_Z68:Pol := ⟨25,[(20,[some 24])],[(3,⟨[0,3,4],[7],[],[],[],[],[]⟩)],[],[],[]⟩
noncomputable def pol_Z7:Pol := ⟨41,[],[(2,⟨[1,6,7,8],[1],[],[],[1],[],[]⟩)],[],[(1000030,⟨[1,3,4,6,7,8,30],[1,3],[],[],[],[],[]⟩)],[]⟩
noncomputable def pol_Z10:Pol := ⟨19,[],[(4,⟨[0,3],[],[],[],[],[],[]⟩)],[],[],[]⟩
noncomputable def pol_Z41:Pol := ⟨18,[],[],[],[],[]⟩
noncomputable def pol_Z16:Pol := ⟨28,[],[(4,⟨[1,2,16],[2],[],[],[],[],[]⟩)],[],[(1000015,⟨[1,2,15],[2],[],[],[],[],[]⟩)],[]⟩
noncomputable def pol_Z35:Pol := ⟨44,[(14,[some 42]),(17,[some 43]),(31,[none,none,none,some 41])],[(3,⟨[3,8,9,20,21,22],[8,9,33,42,43],[],[(9,3,33,(.st yM),true)],[],[],[]⟩)],[],[],[]⟩
noncomputable def pol_Z47:Pol := ⟨29,[],[(4,⟨[0,1,5],[],[],[],[],[],[]⟩)],[],[],[]⟩
noncomputable def pol_Z45:Pol := ⟨29,[],[(4,⟨[0,1,5],[],[],[],[],[],[]⟩)],[],[],[]⟩
noncomputable def pol_Z49:Pol := ⟨14,[],[],[],[],[]⟩
noncomputable def pol_Z52:Pol := ⟨51,[],[(2,⟨[0,1,5],[],[],[],[],[],[]⟩)],[],[],[]⟩
noncomputable def pol_Z107:Pol := ⟨35,[],[(3,⟨[0,1,5,6],[7],[],[],[],[],[]⟩)],[],[],[]⟩
noncomputable def pol_Z100:Pol := ⟨29,[],[(2,⟨[0,1,2,7],[],[],[],[],[],[]⟩)],[],[],[]⟩
noncomputable def pol_Z37:Pol := ⟨29,[],[(3,⟨[1,5,9,10,11],[24],[(5,24,yI,true)],[],[],[],[]⟩)],[],[],[]⟩
noncomputable def pol_Z80:Pol := ⟨11,[],[],[],[],[]⟩
noncomputable def pol_Z27:Pol := ⟨19,[],[],[],[],[]⟩
noncomputable def pol_Z61:Pol := ⟨14,[],[],[],[],[]⟩
noncomputable def pol_Z64:Pol := ⟨29,[],[(5,⟨[0,1,5],[],[],[],[],[],[]⟩)],[],[],[]⟩
noncomputable def pol_Z115:Pol := ⟨93,[],[(4,⟨[0,3],[],[],[],[],[],[]⟩),(7,⟨[0,3,4],[],[],[],[],[],[]⟩)],[],[(1000040,⟨[0,40],[],[],[],[],[],[]⟩),(1000073,⟨[0,3,4,73],[],[],[],[],[],[]⟩)],[]⟩
noncomputable def pol_Z101:Pol := ⟨43,[],[],[],[],[]⟩
noncomputable def pol_Z112:Pol := ⟨16,[],[],[],[],[]⟩
noncomputable def pol_Z113:Pol := ⟨63,[],[],[],[],[]⟩
noncomputable def pol_Z116:Pol := ⟨46,[(16,[some 44,none,some 45,some 42]),(37,[some 43])],[(3,⟨[0,2,3,4],[2,3,42,44,45],[],[],[],[],[]⟩)],[],[(2,⟨[0,2,3],[2,3,42,44,45],[],[],[],[],[]⟩)],[]⟩
noncomputable def pol_Z96:Pol := ⟨7,[],[],[],[],[]⟩
noncomputable def pol_Z117:Pol := ⟨39,[],[(3,⟨[0,1,2,7,8],[],[],[],[],[],[]⟩)],[],[],[]⟩
noncomputable def pol_Z70:Pol := ⟨25,[(20,[none,none,none,some 24])],[(3,⟨[0,3,4],[7],[],[],[],[],[]⟩)],[],[],[]⟩
noncomputable def pol_Z11:Pol := ⟨73,[],[(5,⟨[1,3,27,28,29],[1],[],[],[],[],[]⟩)],[],[(1000023,⟨[1,23],[1],[],[],[],[],[]⟩),(1000061,⟨[1,3,27,28,29,61],[1],[],[],[],[],[]⟩)],[]⟩
noncomputable def pol_Z9:Pol := ⟨38,[],[],[],[],[]⟩
noncomputable def pol_Z30:Pol := ⟨17,[],[],[],[],[]⟩
noncomputable def pol_Z39:Pol := ⟨6,[],[],[],[],[]⟩
noncomputable def pol_Z23:Pol := ⟨29,[],[(3,⟨[2,5,13,14,15],[2,24],[(5,24,yI,true)],[],[],[],[]⟩)],[],[],[]⟩
noncomputable def pol_Z34:Pol := ⟨32,[],[],[],[],[]⟩
noncomputable def pol_Z22:Pol := ⟨22,[],[],[],[],[]⟩
noncomputable def pol_Z6:Pol := ⟨31,[],[],[],[(1000016,⟨[3,4,5,6,16],[5,6],[],[],[],[],[]⟩)],[]⟩
noncomputable def pol_Z108:Pol := ⟨66,[],[(4,⟨[0,3],[],[],[],[],[],[]⟩),(10,⟨[0,3,4,5],[],[],[],[],[],[]⟩)],[],[(1000047,⟨[0,3,4,47],[],[],[],[],[],[]⟩),(1000056,⟨[0,3,4,5,56],[],[],[],[],[],[]⟩)],[]⟩
noncomputable def pol_Z94:Pol := ⟨6,[],[],[],[],[]⟩
noncomputable def pol_Z114:Pol := ⟨61,[(12,[some 59]),(15,[some 60]),(50,[none,none,none,some 58])],[(3,⟨[0,1,2,6,7,8],[6,7,16,59,60],[],[],[],[],[]⟩),(7,⟨[0,1,2,6,7,8,9,10],[6,7,16,59,60],[],[],[],[],[]⟩)],[],[],[]⟩
noncomputable def pol_Z119:Pol := ⟨32,[],[(4,⟨[1,7,8,9],[],[],[],[],[],[]⟩)],[],[],[]⟩
noncomputable def pol_Z12:Pol := ⟨21,[],[],[],[],[]⟩
noncomputable def pol_Z19:Pol := ⟨17,[],[],[],[],[]⟩
noncomputable def pol_Z78:Pol := ⟨11,[],[],[],[],[]⟩
noncomputable def pol_Z24:Pol := ⟨29,[(22,[some 28])],[(3,⟨[0,3,6,7],[24],[(3,24,yL,true)],[],[],[],[]⟩)],[],[],[]⟩
noncomputable def pol_Z8:Pol := ⟨16,[],[],[],[],[]⟩
noncomputable def pol_Z17:Pol := ⟨7,[],[],[],[],[]⟩
noncomputable def pol_Z40:Pol := ⟨31,[],[(3,⟨[2,5,11,12,13],[2],[],[],[],[],[]⟩)],[],[],[]⟩
noncomputable def pol_Z26:Pol := ⟨14,[(5,[some 12]),(9,[some 13])],[],[],[],[]⟩
noncomputable def pol_Z74:Pol := ⟨9,[],[],[],[(1000004,⟨[0,4],[],[],[],[],[],[]⟩)],[]⟩
noncomputable def pol_Z18:Pol := ⟨33,[],[(3,⟨[1,3,9,10],[1,28],[(3,28,(.st (.cons yI (.cons yI (.cons yI .nil)))),true)],[],[],[],[]⟩),(6,⟨[1,3,4,9,10,15,16,17],[1,28],[(3,28,(.st (.cons yI (.cons yI (.cons yI .nil)))),true)],[],[],[],[]⟩)],[],[],[]⟩
noncomputable def pol_Z21:Pol := ⟨13,[(5,[some 12])],[],[],[],[]⟩
noncomputable def pol_Z51:Pol := ⟨23,[],[(2,⟨[0,1,5],[],[],[],[],[],[]⟩)],[],[],[]⟩
noncomputable def pol_Z106:Pol := ⟨27,[],[(2,⟨[0,1,5],[],[],[],[],[],[]⟩)],[],[],[]⟩
noncomputable def pol_Z88:Pol := ⟨21,[],[(2,⟨[0,1,7,8],[],[],[],[],[],[]⟩)],[],[],[]⟩
noncomputable def pol_Z72:Pol := ⟨52,[],[(3,⟨[0,1,2,8,9,10],[],[],[],[],[],[]⟩)],[],[],[]⟩
noncomputable def pol_Z111:Pol := ⟨11,[],[],[],[],[]⟩
noncomputable def pol_Z105:Pol := ⟨38,[],[(4,⟨[0,5,6,7],[15],[],[],[],[],[]⟩)],[],[(1000024,⟨[0,5,6,7,24],[15],[],[],[],[],[]⟩)],[]⟩
noncomputable def pol_Z28:Pol := ⟨36,[],[],[],[],[]⟩
noncomputable def pol_Z32:Pol := ⟨6,[],[],[],[],[]⟩
noncomputable def pol_Z14:Pol := ⟨11,[],[],[],[],[]⟩
noncomputable def pol_Z38:Pol := ⟨6,[],[],[],[],[]⟩
noncomputable def pol_Z25:Pol := ⟨32,[],[(3,⟨[5,12,13,14],[],[],[],[],[],[]⟩)],[],[],[]⟩
noncomputable def pol_Z109:Pol := ⟨11,[],[],[],[],[]⟩
noncomputable def pol_Z103:Pol := ⟨42,[],[(4,⟨[0,1,5],[],[],[],[],[],[]⟩)],[],[],[]⟩
noncomputable def pol_Z104:Pol := ⟨19,[(9,[some 18])],[],[],[],[]⟩
noncomputable def pol_Z99:Pol := ⟨19,[],[(4,⟨[0,3],[],[],[],[],[],[]⟩)],[],[],[]⟩
noncomputable def pol_Z110:Pol := ⟨46,[(38,[some 45])],[(3,⟨[0,1,4,5,6],[4,5,7],[],[],[],[],[]⟩)],[],[],[]⟩
noncomputable def pol_Z102:Pol := ⟨18,[],[],[],[],[]⟩
noncomputable def pol_Z31:Pol := ⟨21,[],[(2,⟨[0,3],[],[],[],[],[],[]⟩)],[],[],[]⟩
noncomputable def pol_Z13:Pol := ⟨7,[],[],[],[],[]⟩
noncomputable def pol_Z33:Pol := ⟨6,[],[],[],[],[]⟩
noncomputable def pol_Z2:Pol := ⟨19,[],[(3,⟨[3,6,7,8],[],[],[],[],[],[]⟩)],[],[],[]⟩
noncomputable def pol_Z0:Pol := ⟨22,[],[],[],[],[]⟩
noncomputable def pol_Z76:Pol := ⟨38,[],[(2,⟨[0,1,9,10,11],[],[],[],[],[],[]⟩)],[],[],[]⟩
noncomputable def pol_Z86:Pol := ⟨21,[],[(2,⟨[0,1,7,8],[],[],[],[],[],[]⟩)],[],[],[]⟩
noncomputable def pol_Z77:Pol := ⟨38,[(24,[some 37])],[(3,⟨[0,3,9,10,11],[],[],[],[],[],[]⟩),(11,⟨[6,25,26,27],[37],[],[],[],[],[]⟩)],[],[],[]⟩
noncomputable def pol_Z20:Pol := ⟨21,[(14,[some 20])],[(3,⟨[3,6,7,8],[16],[(3,16,yL,true)],[],[],[],[]⟩)],[],[],[]⟩
noncomputable def pol_Z84:Pol := ⟨28,[],[(4,⟨[0,1,12,13],[],[],[],[],[],[]⟩)],[],[],[]⟩
noncomputable def pol_Z98:Pol := ⟨28,[],[(4,⟨[0,1,5],[],[],[],[],[],[]⟩)],[],[],[]⟩
noncomputable def pol_Z15:Pol := ⟨10,[],[],[],[],[]⟩
noncomputable def pol_Z29:Pol := ⟨11,[],[],[],[],[]⟩
noncomputable def pol_Z97:Pol := ⟨41,[],[(2,⟨[0,1,2,7],[],[],[],[],[],[]⟩)],[],[(1000037,⟨[0,1,2,7,37],[],[],[],[],[],[]⟩)],[]⟩
noncomputable def pol_Z3:Pol := ⟨7,[],[],[],[],[]⟩
noncomputable def pol_Z1:Pol := ⟨22,[],[],[],[],[]⟩
noncomputable def pol_Z4:Pol := ⟨7,[],[],[],[],[]⟩
noncomputable def sigL:List (Option Sig) := [none,none,none,none,none,some sg_Z42,none,some sg_Z60,none,some sg_Z66,none,some sg_Z48,some sg_Z43,some sg_Z54,some sg_Z59,some sg_Z53,none,some sg_Z67,none,some sg_Z44,some sg_Z55,some sg_Z65,some sg_Z63,some sg_Z93,some sg_Z71,some sg_Z69,some sg_Z5,some sg_Z46,some sg_Z57,none,none,some sg_Z50,some sg_Z62,none,some sg_Z95,none,some sg_Z118,some sg_Z68,some sg_Z7,some sg_Z10,some sg_Z41,some sg_Z16,none,some sg_Z35,none,none,some sg_Z47,some sg_Z45,some sg_Z56,some sg_Z58,some sg_Z49,some sg_Z52,some sg_Z107,some sg_Z100,none,none,some sg_Z37,some sg_Z80,none,none,some sg_Z27,none,some sg_Z61,some sg_Z64,some sg_Z115,some sg_Z101,some sg_Z112,some sg_Z113,some sg_Z116,some sg_Z96,some sg_Z117,some sg_Z70,some sg_Z11,some sg_Z9,some sg_Z30,some sg_Z39,some sg_Z23,some sg_Z34,some sg_Z22,some sg_Z6,none,none,none,none,none,none,none,none,none,some sg_Z108,some sg_Z94,some sg_Z114,none,some sg_Z119,some sg_Z12,some sg_Z19,some sg_Z78,some sg_Z24,some sg_Z8,some sg_Z17,some sg_Z40,some sg_Z26,some sg_Z74,some sg_Z18,some sg_Z21,none,none,some sg_Z51,some sg_Z106,some sg_Z88,some sg_Z72,some sg_Z111,some sg_Z105,some sg_Z28,some sg_Z32,some sg_Z14,some sg_Z38,some sg_Z25,none,none,none,none,none,some sg_Z109,some sg_Z103,some sg_Z104,some sg_Z99,some sg_Z110,some sg_Z102,some sg_Z31,some sg_Z13,some sg_Z33,some sg_Z2,some sg_Z0,some sg_Z76,some sg_Z86,some sg_Z77,some sg_Z20,some sg_Z92,some sg_Z75,some sg_Z84,some sg_Z98,some sg_Z15,some sg_Z29,none,none,none,none,none,none,none,none,none,none,none,none,none,none,none,none,some sg_Z97,some sg_Z3,some sg_Z1,some sg_Z85,none,none,none,none,none,none,none,none,none,none,none,none,none,none,none,none,none,none,none,none,none,none,some sg_Z4,none,none,none,none,none,none,none,none,none,none,none,none,none,none,none,none,none,none,none,none,none,none,none,none,none,none,none,none,none,none,none,none,none,none,none,none,none,none,none,none,none]
noncomputable def fnL:List (Option (Func × Pol)) := [none,none,none,none,none,some (F_Z42,pol_Z42),none,some (F_Z60,pol_Z60),none,some (F_Z66,pol_Z66),none,some (F_Z48,pol_Z48),some (F_Z43,pol_Z43),some (F_Z54,pol_Z54),some (F_Z59,pol_Z59),some (F_Z53,pol_Z53),none,some (F_Z67,pol_Z67),none,some (F_Z44,pol_Z44),some (F_Z55,pol_Z55),some (F_Z65,pol_Z65),some (F_Z63,pol_Z63),some (F_Z93,pol_Z93),some (F_Z71,pol_Z71),some (F_Z69,pol_Z69),some (F_Z5,pol_Z5),some (F_Z46,pol_Z46),some (F_Z57,pol_Z57),none,none,some (F_Z50,pol_Z50),some (F_Z62,pol_Z62),none,some (F_Z95,pol_Z95),none,some (F_Z118,pol_Z118),some (F_Z68,pol_Z68),some (F_Z7,pol_Z7),some (F_Z10,pol_Z10),some (F_Z41,pol_Z41),some (F_Z16,pol_Z16),none,some (F_Z35,pol_Z35),none,none,some (F_Z47,pol_Z47),some (F_Z45,pol_Z45),none,none,some (F_Z49,pol_Z49),some (F_Z52,pol_Z52),some (F_Z107,pol_Z107),some (F_Z100,pol_Z100),none,none,some (F_Z37,pol_Z37),some (F_Z80,pol_Z80),none,none,some (F_Z27,pol_Z27),none,some (F_Z61,pol_Z61),some (F_Z64,pol_Z64),some (F_Z115,pol_Z115),some (F_Z101,pol_Z101),some (F_Z112,pol_Z112),some (F_Z113,pol_Z113),some (F_Z116,pol_Z116),some (F_Z96,pol_Z96),some (F_Z117,pol_Z117),some (F_Z70,pol_Z70),some (F_Z11,pol_Z11),some (F_Z9,pol_Z9),some (F_Z30,pol_Z30),some (F_Z39,pol_Z39),some (F_Z23,pol_Z23),some (F_Z34,pol_Z34),some (F_Z22,pol_Z22),some (F_Z6,pol_Z6),none,none,none,none,none,none,none,none,none,some (F_Z108,pol_Z108),some (F_Z94,pol_Z94),some (F_Z114,pol_Z114),none,some (F_Z119,pol_Z119),some (F_Z12,pol_Z12),some (F_Z19,pol_Z19),some (F_Z78,pol_Z78),some (F_Z24,pol_Z24),some (F_Z8,pol_Z8),some (F_Z17,pol_Z17),some (F_Z40,pol_Z40),some (F_Z26,pol_Z26),some (F_Z74,pol_Z74),some (F_Z18,pol_Z18),some (F_Z21,pol_Z21),none,none,some (F_Z51,pol_Z51),some (F_Z106,pol_Z106),some (F_Z88,pol_Z88),some (F_Z72,pol_Z72),some (F_Z111,pol_Z111),some (F_Z105,pol_Z105),some (F_Z28,pol_Z28),some (F_Z32,pol_Z32),some (F_Z14,pol_Z14),some (F_Z38,pol_Z38),some (F_Z25,pol_Z25),none,none,none,none,none,some (F_Z109,pol_Z109),some (F_Z103,pol_Z103),some (F_Z104,pol_Z104),some (F_Z99,pol_Z99),some (F_Z110,pol_Z110),some (F_Z102,pol_Z102),some (F_Z31,pol_Z31),some (F_Z13,pol_Z13),some (F_Z33,pol_Z33),some (F_Z2,pol_Z2),some (F_Z0,pol_Z0),some (F_Z76,pol_Z76),some (F_Z86,pol_Z86),some (F_Z77,pol_Z77),some (F_Z20,pol_Z20),none,none,some (F_Z84,pol_Z84),some (F_Z98,pol_Z98),some (F_Z15,pol_Z15),some (F_Z29,pol_Z29),none,none,none,none,none,none,none,none,none,none,none,none,none,none,none,none,some (F_Z97,pol_Z97),some (F_Z3,pol_Z3),some (F_Z1,pol_Z1),none,none,none,none,none,none,none,none,none,none,none,none,none,none,none,none,none,none,none,none,none,none,none,some (F_Z4,pol_Z4),none,none,none,none,none,none,none,none,none,none,none,none,none,none,none,none,none,none,none,none,none,none,none,none,none,none,none,none,none,none,none,none,none,none,none,none,none,none,none,none,none]
noncomputable def primL:List (Option (Run → List Dv → Option Dv)) := [none,none,none,none,none,none,none,none,none,none,none,none,none,none,none,none,none,none,none,none,none,none,none,none,none,none,none,none,none,none,none,none,none,none,none,none,none,none,none,none,none,none,none,none,none,none,none,none,some (pMarkSS n_Z55),some (pMarkMS n_Z55),none,none,none,none,none,none,none,none,none,none,none,none,none,none,none,none,none,none,none,none,none,none,none,none,none,none,none,none,none,none,none,none,none,none,none,none,none,none,none,none,none,none,none,none,none,none,none,none,none,none,none,none,none,none,none,none,none,none,none,none,none,none,none,none,none,none,none,none,none,none,none,none,none,none,none,none,none,none,none,none,none,none,none,none,none,none,none,none,some (pSortF n_Z19),some (pCompF n_Z84),none,none,none,none,none,none,none,none,none,none,none,none,none,none,none,none,none,none,none,none,none,none,none,some (pGrow yI),none,none,none,none,none,none,none,none,none,none,none,none,none,none,none,none,none,none,none,none,none,none,none,none,none,none,none,none,none,none,none,none,none,none,none,none,none,none,none,none,none,none,none,none,none,none,none,none,none,none,none,none,none,none,none,none,none,none,none,none,none,none,none,none]
noncomputable def E:Env := { P := Tryz.prog,fn := fun f => fnL.getD f none,prim := fun f => primL.getD f none,sig := fun f => sigL.getD f none }
theorem sig_laws_FnExactSetRestriction_eq:E.sig n_Z42 = some sg_Z42 := rfl
theorem run_Z42 (n:Nat) (args:List Dv):run E (n + 1) n_Z42 args = evFn E (mkR (run E n)) sg_Z42 pol_Z42 F_Z42 n args := rfl
theorem sig_laws_szComplex_eq:E.sig n_Z60 = some sg_Z60 := rfl
theorem run_Z60 (n:Nat) (args:List Dv):run E (n + 1) n_Z60 args = evFn E (mkR (run E n)) sg_Z60 pol_Z60 F_Z60 n args := rfl
theorem sig_laws_toComplex_eq:E.sig n_Z66 = some sg_Z66 := rfl
theorem run_Z66 (n:Nat) (args:List Dv):run E (n + 1) n_Z66 args = evFn E (mkR (run E n)) sg_Z66 pol_Z66 F_Z66 n args := rfl
theorem sig_laws_eqSheaf_eq:E.sig n_Z48 = some sg_Z48 := rfl
theorem run_Z48 (n:Nat) (args:List Dv):run E (n + 1) n_Z48 args = evFn E (mkR (run E n)) sg_Z48 pol_Z48 F_Z48 n args := rfl
theorem sig_laws_eqComplex_eq:E.sig n_Z43 = some sg_Z43 := rfl
theorem run_Z43 (n:Nat) (args:List Dv):run E (n + 1) n_Z43 args = evFn E (mkR (run E n)) sg_Z43 pol_Z43 F_Z43 n args := rfl
theorem sig_laws_markComplex_eq:E.sig n_Z54 = some sg_Z54 := rfl
theorem run_Z54 (n:Nat) (args:List Dv):run E (n + 1) n_Z54 args = evFn E (mkR (run E n)) sg_Z54 pol_Z54 F_Z54 n args := rfl
theorem sig_laws_markSheaf_eq:E.sig n_Z59 = some sg_Z59 := rfl
theorem run_Z59 (n:Nat) (args:List Dv):run E (n + 1) n_Z59 args = evFn E (mkR (run E n)) sg_Z59 pol_Z59 F_Z59 n args := rfl
theorem sig_laws_heldSheaf_eq:E.sig n_Z53 = some sg_Z53 := rfl
theorem run_Z53 (n:Nat) (args:List Dv):run E (n + 1) n_Z53 args = evFn E (mkR (run E n)) sg_Z53 pol_Z53 F_Z53 n args := rfl
theorem sig_laws_toInt64S_eq:E.sig n_Z67 = some sg_Z67 := rfl
theorem run_Z67 (n:Nat) (args:List Dv):run E (n + 1) n_Z67 args = evFn E (mkR (run E n)) sg_Z67 pol_Z67 F_Z67 n args := rfl
theorem sig_laws_eqInt64S_eq:E.sig n_Z44 = some sg_Z44 := rfl
theorem run_Z44 (n:Nat) (args:List Dv):run E (n + 1) n_Z44 args = evFn E (mkR (run E n)) sg_Z44 pol_Z44 F_Z44 n args := rfl
theorem sig_laws_markInt64S_eq:E.sig n_Z55 = some sg_Z55 := rfl
theorem run_Z55 (n:Nat) (args:List Dv):run E (n + 1) n_Z55 args = evFn E (mkR (run E n)) sg_Z55 pol_Z55 F_Z55 n args := rfl
theorem sig_laws_szSheaf_eq:E.sig n_Z65 = some sg_Z65 := rfl
theorem run_Z65 (n:Nat) (args:List Dv):run E (n + 1) n_Z65 args = evFn E (mkR (run E n)) sg_Z65 pol_Z65 F_Z65 n args := rfl
theorem sig_laws_szMatrix_eq:E.sig n_Z63 = some sg_Z63 := rfl
theorem run_Z63 (n:Nat) (args:List Dv):run E (n + 1) n_Z63 args = evFn E (mkR (run E n)) sg_Z63 pol_Z63 F_Z63 n args := rfl
theorem sig_spec_SetRestriction_eq:E.sig n_Z93 = some sg_Z93 := rfl
theorem run_Z93 (n:Nat) (args:List Dv):run E (n + 1) n_Z93 args = evFn E (mkR (run E n)) sg_Z93 pol_Z93 F_Z93 n args := rfl
theorem sig_laws_toSheaf_eq:E.sig n_Z71 = some sg_Z71 := rfl
theorem run_Z71 (n:Nat) (args:List Dv):run E (n + 1) n_Z71 args = evFn E (mkR (run E n)) sg_Z71 pol_Z71 F_Z71 n args := rfl
theorem sig_laws_toMatrix_eq:E.sig n_Z69 = some sg_Z69 := rfl
theorem run_Z69 (n:Nat) (args:List Dv):run E (n + 1) n_Z69 args = evFn E (mkR (run E n)) sg_Z69 pol_Z69 F_Z69 n args := rfl
theorem sig_impl_SetRestriction_eq:E.sig n_Z5 = some sg_Z5 := rfl
theorem run_Z5 (n:Nat) (args:List Dv):run E (n + 1) n_Z5 args = evFn E (mkR (run E n)) sg_Z5 pol_Z5 F_Z5 n args := rfl
theorem sig_laws_eqMatrix_eq:E.sig n_Z46 = some sg_Z46 := rfl
theorem run_Z46 (n:Nat) (args:List Dv):run E (n + 1) n_Z46 args = evFn E (mkR (run E n)) sg_Z46 pol_Z46 F_Z46 n args := rfl
theorem sig_laws_markMatrix_eq:E.sig n_Z57 = some sg_Z57 := rfl
theorem run_Z57 (n:Nat) (args:List Dv):run E (n + 1) n_Z57 args = evFn E (mkR (run E n)) sg_Z57 pol_Z57 F_Z57 n args := rfl
theorem sig_laws_heldInt64S_eq:E.sig n_Z50 = some sg_Z50 := rfl
theorem run_Z50 (n:Nat) (args:List Dv):run E (n + 1) n_Z50 args = evFn E (mkR (run E n)) sg_Z50 pol_Z50 F_Z50 n args := rfl
theorem sig_laws_szInt64SS_eq:E.sig n_Z62 = some sg_Z62 := rfl
theorem run_Z62 (n:Nat) (args:List Dv):run E (n + 1) n_Z62 args = evFn E (mkR (run E n)) sg_Z62 pol_Z62 F_Z62 n args := rfl
theorem sig_spec_l00In_eq:E.sig n_Z95 = some sg_Z95 := rfl
theorem run_Z95 (n:Nat) (args:List Dv):run E (n + 1) n_Z95 args = evFn E (mkR (run E n)) sg_Z95 pol_Z95 F_Z95 n args := rfl
theorem sig_spec_l09Stalks_eq:E.sig n_Z118 = some sg_Z118 := rfl
theorem run_Z118 (n:Nat) (args:List Dv):run E (n + 1) n_Z118 args = evFn E (mkR (run E n)) sg_Z118 pol_Z118 F_Z118 n args := rfl
theorem sig_laws_toInt64SS_eq:E.sig n_Z68 = some sg_Z68 := rfl
theorem run_Z68 (n:Nat) (args:List Dv):run E (n + 1) n_Z68 args = evFn E (mkR (run E n)) sg_Z68 pol_Z68 F_Z68 n args := rfl
theorem sig_impl_ValidComplex_eq:E.sig n_Z7 = some sg_Z7 := rfl
theorem run_Z7 (n:Nat) (args:List Dv):run E (n + 1) n_Z7 args = evFn E (mkR (run E n)) sg_Z7 pol_Z7 F_Z7 n args := rfl
theorem sig_impl_ValidPrime_eq:E.sig n_Z10 = some sg_Z10 := rfl
theorem run_Z10 (n:Nat) (args:List Dv):run E (n + 1) n_Z10 args = evFn E (mkR (run E n)) sg_Z10 pol_Z10 F_Z10 n args := rfl
theorem sig_impl_within_eq:E.sig n_Z41 = some sg_Z41 := rfl
theorem run_Z41 (n:Nat) (args:List Dv):run E (n + 1) n_Z41 args = evFn E (mkR (run E n)) sg_Z41 pol_Z41 F_Z41 n args := rfl
theorem sig_impl_areStalks_eq:E.sig n_Z16 = some sg_Z16 := rfl
theorem run_Z16 (n:Nat) (args:List Dv):run E (n + 1) n_Z16 args = evFn E (mkR (run E n)) sg_Z16 pol_Z16 F_Z16 n args := rfl
theorem sig_impl_sheafOf_eq:E.sig n_Z35 = some sg_Z35 := rfl
theorem run_Z35 (n:Nat) (args:List Dv):run E (n + 1) n_Z35 args = evFn E (mkR (run E n)) sg_Z35 pol_Z35 F_Z35 n args := rfl
theorem sig_laws_eqMatrixS_eq:E.sig n_Z47 = some sg_Z47 := rfl
theorem run_Z47 (n:Nat) (args:List Dv):run E (n + 1) n_Z47 args = evFn E (mkR (run E n)) sg_Z47 pol_Z47 F_Z47 n args := rfl
theorem sig_laws_eqInt64SS_eq:E.sig n_Z45 = some sg_Z45 := rfl
theorem run_Z45 (n:Nat) (args:List Dv):run E (n + 1) n_Z45 args = evFn E (mkR (run E n)) sg_Z45 pol_Z45 F_Z45 n args := rfl
theorem sig_laws_markInt64SS_eq:E.sig n_Z56 = some sg_Z56 := rfl
theorem sig_laws_markMatrixS_eq:E.sig n_Z58 = some sg_Z58 := rfl
theorem sig_laws_heldComplex_eq:E.sig n_Z49 = some sg_Z49 := rfl
theorem run_Z49 (n:Nat) (args:List Dv):run E (n + 1) n_Z49 args = evFn E (mkR (run E n)) sg_Z49 pol_Z49 F_Z49 n args := rfl
theorem sig_laws_heldMatrixS_eq:E.sig n_Z52 = some sg_Z52 := rfl
theorem run_Z52 (n:Nat) (args:List Dv):run E (n + 1) n_Z52 args = evFn E (mkR (run E n)) sg_Z52 pol_Z52 F_Z52 n args := rfl
theorem sig_spec_l05Of_eq:E.sig n_Z107 = some sg_Z107 := rfl
theorem run_Z107 (n:Nat) (args:List Dv):run E (n + 1) n_Z107 args = evFn E (mkR (run E n)) sg_Z107 pol_Z107 F_Z107 n args := rfl
theorem sig_spec_l03Column_eq:E.sig n_Z100 = some sg_Z100 := rfl
theorem run_Z100 (n:Nat) (args:List Dv):run E (n + 1) n_Z100 args = evFn E (mkR (run E n)) sg_Z100 pol_Z100 F_Z100 n args := rfl
theorem sig_impl_simplicesOf_eq:E.sig n_Z37 = some sg_Z37 := rfl
theorem run_Z37 (n:Nat) (args:List Dv):run E (n + 1) n_Z37 args = evFn E (mkR (run E n)) sg_Z37 pol_Z37 F_Z37 n args := rfl
theorem sig_slices_ContainsFunc_Sint64_int64_eq:E.sig n_Z80 = some sg_Z80 := rfl
theorem run_Z80 (n:Nat) (args:List Dv):run E (n + 1) n_Z80 args = evFn E (mkR (run E n)) sg_Z80 pol_Z80 F_Z80 n args := rfl
theorem sig_impl_indexOf_eq:E.sig n_Z27 = some sg_Z27 := rfl
theorem run_Z27 (n:Nat) (args:List Dv):run E (n + 1) n_Z27 args = evFn E (mkR (run E n)) sg_Z27 pol_Z27 F_Z27 n args := rfl
theorem sig_laws_szInt64S_eq:E.sig n_Z61 = some sg_Z61 := rfl
theorem run_Z61 (n:Nat) (args:List Dv):run E (n + 1) n_Z61 args = evFn E (mkR (run E n)) sg_Z61 pol_Z61 F_Z61 n args := rfl
theorem sig_laws_szMatrixS_eq:E.sig n_Z64 = some sg_Z64 := rfl
theorem run_Z64 (n:Nat) (args:List Dv):run E (n + 1) n_Z64 args = evFn E (mkR (run E n)) sg_Z64 pol_Z64 F_Z64 n args := rfl
theorem sig_spec_l09Ok_eq:E.sig n_Z115 = some sg_Z115 := rfl
theorem run_Z115 (n:Nat) (args:List Dv):run E (n + 1) n_Z115 args = evFn E (mkR (run E n)) sg_Z115 pol_Z115 F_Z115 n args := rfl
theorem sig_spec_l03Ok_eq:E.sig n_Z101 = some sg_Z101 := rfl
theorem run_Z101 (n:Nat) (args:List Dv):run E (n + 1) n_Z101 args = evFn E (mkR (run E n)) sg_Z101 pol_Z101 F_Z101 n args := rfl
theorem sig_spec_l09Index_eq:E.sig n_Z112 = some sg_Z112 := rfl
theorem run_Z112 (n:Nat) (args:List Dv):run E (n + 1) n_Z112 args = evFn E (mkR (run E n)) sg_Z112 pol_Z112 F_Z112 n args := rfl
theorem sig_spec_l09Map_eq:E.sig n_Z113 = some sg_Z113 := rfl
theorem run_Z113 (n:Nat) (args:List Dv):run E (n + 1) n_Z113 args = evFn E (mkR (run E n)) sg_Z113 pol_Z113 F_Z113 n args := rfl
theorem sig_spec_l09Own_eq:E.sig n_Z116 = some sg_Z116 := rfl
theorem run_Z116 (n:Nat) (args:List Dv):run E (n + 1) n_Z116 args = evFn E (mkR (run E n)) sg_Z116 pol_Z116 F_Z116 n args := rfl
theorem sig_spec_l00Own_eq:E.sig n_Z96 = some sg_Z96 := rfl
theorem run_Z96 (n:Nat) (args:List Dv):run E (n + 1) n_Z96 args = evFn E (mkR (run E n)) sg_Z96 pol_Z96 F_Z96 n args := rfl
theorem sig_spec_l09Place_eq:E.sig n_Z117 = some sg_Z117 := rfl
theorem run_Z117 (n:Nat) (args:List Dv):run E (n + 1) n_Z117 args = evFn E (mkR (run E n)) sg_Z117 pol_Z117 F_Z117 n args := rfl
theorem sig_laws_toMatrixS_eq:E.sig n_Z70 = some sg_Z70 := rfl
theorem run_Z70 (n:Nat) (args:List Dv):run E (n + 1) n_Z70 args = evFn E (mkR (run E n)) sg_Z70 pol_Z70 F_Z70 n args := rfl
theorem sig_impl_ValidSheaf_eq:E.sig n_Z11 = some sg_Z11 := rfl
theorem run_Z11 (n:Nat) (args:List Dv):run E (n + 1) n_Z11 args = evFn E (mkR (run E n)) sg_Z11 pol_Z11 F_Z11 n args := rfl
theorem sig_impl_ValidMatrix_eq:E.sig n_Z9 = some sg_Z9 := rfl
theorem run_Z9 (n:Nat) (args:List Dv):run E (n + 1) n_Z9 args = evFn E (mkR (run E n)) sg_Z9 pol_Z9 F_Z9 n args := rfl
theorem sig_impl_isPlace_eq:E.sig n_Z30 = some sg_Z30 := rfl
theorem run_Z30 (n:Nat) (args:List Dv):run E (n + 1) n_Z30 args = evFn E (mkR (run E n)) sg_Z30 pol_Z30 F_Z30 n args := rfl
theorem sig_impl_size_int64_eq:E.sig n_Z39 = some sg_Z39 := rfl
theorem run_Z39 (n:Nat) (args:List Dv):run E (n + 1) n_Z39 args = evFn E (mkR (run E n)) sg_Z39 pol_Z39 F_Z39 n args := rfl
theorem sig_impl_faceIndices_eq:E.sig n_Z23 = some sg_Z23 := rfl
theorem run_Z23 (n:Nat) (args:List Dv):run E (n + 1) n_Z23 args = evFn E (mkR (run E n)) sg_Z23 pol_Z23 F_Z23 n args := rfl
theorem sig_impl_sameShape_eq:E.sig n_Z34 = some sg_Z34 := rfl
theorem run_Z34 (n:Nat) (args:List Dv):run E (n + 1) n_Z34 args = evFn E (mkR (run E n)) sg_Z34 pol_Z34 F_Z34 n args := rfl
theorem sig_impl_direct_eq:E.sig n_Z22 = some sg_Z22 := rfl
theorem run_Z22 (n:Nat) (args:List Dv):run E (n + 1) n_Z22 args = evFn E (mkR (run E n)) sg_Z22 pol_Z22 F_Z22 n args := rfl
theorem sig_impl_SetRestriction_1_eq:E.sig n_Z6 = some sg_Z6 := rfl
theorem run_Z6 (n:Nat) (args:List Dv):run E (n + 1) n_Z6 args = evFn E (mkR (run E n)) sg_Z6 pol_Z6 F_Z6 n args := rfl
theorem sig_spec_l05Ok_eq:E.sig n_Z108 = some sg_Z108 := rfl
theorem run_Z108 (n:Nat) (args:List Dv):run E (n + 1) n_Z108 args = evFn E (mkR (run E n)) sg_Z108 pol_Z108 F_Z108 n args := rfl
theorem sig_spec_ValidPrime_eq:E.sig n_Z94 = some sg_Z94 := rfl
theorem run_Z94 (n:Nat) (args:List Dv):run E (n + 1) n_Z94 args = evFn E (mkR (run E n)) sg_Z94 pol_Z94 F_Z94 n args := rfl
theorem sig_spec_l09New_eq:E.sig n_Z114 = some sg_Z114 := rfl
theorem run_Z114 (n:Nat) (args:List Dv):run E (n + 1) n_Z114 args = evFn E (mkR (run E n)) sg_Z114 pol_Z114 F_Z114 n args := rfl
theorem sig_spec_l09Sum_eq:E.sig n_Z119 = some sg_Z119 := rfl
theorem run_Z119 (n:Nat) (args:List Dv):run E (n + 1) n_Z119 args = evFn E (mkR (run E n)) sg_Z119 pol_Z119 F_Z119 n args := rfl
theorem sig_impl_ValidSimplex_eq:E.sig n_Z12 = some sg_Z12 := rfl
theorem run_Z12 (n:Nat) (args:List Dv):run E (n + 1) n_Z12 args = evFn E (mkR (run E n)) sg_Z12 pol_Z12 F_Z12 n args := rfl
theorem sig_impl_compareSimplices_eq:E.sig n_Z19 = some sg_Z19 := rfl
theorem run_Z19 (n:Nat) (args:List Dv):run E (n + 1) n_Z19 args = evFn E (mkR (run E n)) sg_Z19 pol_Z19 F_Z19 n args := rfl
theorem sig_slices_ContainsFunc_SSint64_Sint64_eq:E.sig n_Z78 = some sg_Z78 := rfl
theorem run_Z78 (n:Nat) (args:List Dv):run E (n + 1) n_Z78 args = evFn E (mkR (run E n)) sg_Z78 pol_Z78 F_Z78 n args := rfl
theorem sig_impl_facesOf_eq:E.sig n_Z24 = some sg_Z24 := rfl
theorem run_Z24 (n:Nat) (args:List Dv):run E (n + 1) n_Z24 args = evFn E (mkR (run E n)) sg_Z24 pol_Z24 F_Z24 n args := rfl
theorem sig_impl_ValidComplex_1_eq:E.sig n_Z8 = some sg_Z8 := rfl
theorem run_Z8 (n:Nat) (args:List Dv):run E (n + 1) n_Z8 args = evFn E (mkR (run E n)) sg_Z8 pol_Z8 F_Z8 n args := rfl
theorem sig_impl_areStalks_1_eq:E.sig n_Z17 = some sg_Z17 := rfl
theorem run_Z17 (n:Nat) (args:List Dv):run E (n + 1) n_Z17 args = evFn E (mkR (run E n)) sg_Z17 pol_Z17 F_Z17 n args := rfl
theorem sig_impl_stalkSum_eq:E.sig n_Z40 = some sg_Z40 := rfl
theorem run_Z40 (n:Nat) (args:List Dv):run E (n + 1) n_Z40 args = evFn E (mkR (run E n)) sg_Z40 pol_Z40 F_Z40 n args := rfl
theorem sig_impl_inOrder_eq:E.sig n_Z26 = some sg_Z26 := rfl
theorem run_Z26 (n:Nat) (args:List Dv):run E (n + 1) n_Z26 args = evFn E (mkR (run E n)) sg_Z26 pol_Z26 F_Z26 n args := rfl
theorem sig_slices_Clone_Sint64_int64_eq:E.sig n_Z74 = some sg_Z74 := rfl
theorem run_Z74 (n:Nat) (args:List Dv):run E (n + 1) n_Z74 args = evFn E (mkR (run E n)) sg_Z74 pol_Z74 F_Z74 n args := rfl
theorem sig_impl_arrows_eq:E.sig n_Z18 = some sg_Z18 := rfl
theorem run_Z18 (n:Nat) (args:List Dv):run E (n + 1) n_Z18 args = evFn E (mkR (run E n)) sg_Z18 pol_Z18 F_Z18 n args := rfl
theorem sig_impl_copyMatrix_eq:E.sig n_Z21 = some sg_Z21 := rfl
theorem run_Z21 (n:Nat) (args:List Dv):run E (n + 1) n_Z21 args = evFn E (mkR (run E n)) sg_Z21 pol_Z21 F_Z21 n args := rfl
theorem sig_laws_heldInt64SS_eq:E.sig n_Z51 = some sg_Z51 := rfl
theorem run_Z51 (n:Nat) (args:List Dv):run E (n + 1) n_Z51 args = evFn E (mkR (run E n)) sg_Z51 pol_Z51 F_Z51 n args := rfl
theorem sig_spec_l05Find_eq:E.sig n_Z106 = some sg_Z106 := rfl
theorem run_Z106 (n:Nat) (args:List Dv):run E (n + 1) n_Z106 args = evFn E (mkR (run E n)) sg_Z106 pol_Z106 F_Z106 n args := rfl
theorem sig_slices_IndexFunc_Sint64_int64_eq:E.sig n_Z88 = some sg_Z88 := rfl
theorem run_Z88 (n:Nat) (args:List Dv):run E (n + 1) n_Z88 args = evFn E (mkR (run E n)) sg_Z88 pol_Z88 F_Z88 n args := rfl
theorem sig_slices_BinarySearchFunc_SSint64_Sint64_Sint64_eq:E.sig n_Z72 = some sg_Z72 := rfl
theorem run_Z72 (n:Nat) (args:List Dv):run E (n + 1) n_Z72 args = evFn E (mkR (run E n)) sg_Z72 pol_Z72 F_Z72 n args := rfl
theorem sig_spec_l09Count_eq:E.sig n_Z111 = some sg_Z111 := rfl
theorem run_Z111 (n:Nat) (args:List Dv):run E (n + 1) n_Z111 args = evFn E (mkR (run E n)) sg_Z111 pol_Z111 F_Z111 n args := rfl
theorem sig_spec_l05Faces_eq:E.sig n_Z105 = some sg_Z105 := rfl
theorem run_Z105 (n:Nat) (args:List Dv):run E (n + 1) n_Z105 args = evFn E (mkR (run E n)) sg_Z105 pol_Z105 F_Z105 n args := rfl
theorem sig_impl_isBetween_eq:E.sig n_Z28 = some sg_Z28 := rfl
theorem run_Z28 (n:Nat) (args:List Dv):run E (n + 1) n_Z28 args = evFn E (mkR (run E n)) sg_Z28 pol_Z28 F_Z28 n args := rfl
theorem sig_impl_isSide_eq:E.sig n_Z32 = some sg_Z32 := rfl
theorem run_Z32 (n:Nat) (args:List Dv):run E (n + 1) n_Z32 args = evFn E (mkR (run E n)) sg_Z32 pol_Z32 F_Z32 n args := rfl
theorem sig_impl_areElements_eq:E.sig n_Z14 = some sg_Z14 := rfl
theorem run_Z14 (n:Nat) (args:List Dv):run E (n + 1) n_Z14 args = evFn E (mkR (run E n)) sg_Z14 pol_Z14 F_Z14 n args := rfl
theorem sig_impl_size_Sint64_eq:E.sig n_Z38 = some sg_Z38 := rfl
theorem run_Z38 (n:Nat) (args:List Dv):run E (n + 1) n_Z38 args = evFn E (mkR (run E n)) sg_Z38 pol_Z38 F_Z38 n args := rfl
theorem sig_impl_firstMap_eq:E.sig n_Z25 = some sg_Z25 := rfl
theorem run_Z25 (n:Nat) (args:List Dv):run E (n + 1) n_Z25 args = evFn E (mkR (run E n)) sg_Z25 pol_Z25 F_Z25 n args := rfl
theorem sig_spec_l05Simplex_eq:E.sig n_Z109 = some sg_Z109 := rfl
theorem run_Z109 (n:Nat) (args:List Dv):run E (n + 1) n_Z109 args = evFn E (mkR (run E n)) sg_Z109 pol_Z109 F_Z109 n args := rfl
theorem sig_spec_l05Before_eq:E.sig n_Z103 = some sg_Z103 := rfl
theorem run_Z103 (n:Nat) (args:List Dv):run E (n + 1) n_Z103 args = evFn E (mkR (run E n)) sg_Z103 pol_Z103 F_Z103 n args := rfl
theorem sig_spec_l05Drop_eq:E.sig n_Z104 = some sg_Z104 := rfl
theorem run_Z104 (n:Nat) (args:List Dv):run E (n + 1) n_Z104 args = evFn E (mkR (run E n)) sg_Z104 pol_Z104 F_Z104 n args := rfl
theorem sig_spec_l02Prime_eq:E.sig n_Z99 = some sg_Z99 := rfl
theorem run_Z99 (n:Nat) (args:List Dv):run E (n + 1) n_Z99 args = evFn E (mkR (run E n)) sg_Z99 pol_Z99 F_Z99 n args := rfl
theorem sig_spec_l05Skeleton_eq:E.sig n_Z110 = some sg_Z110 := rfl
theorem run_Z110 (n:Nat) (args:List Dv):run E (n + 1) n_Z110 args = evFn E (mkR (run E n)) sg_Z110 pol_Z110 F_Z110 n args := rfl
theorem sig_spec_l03Zero_eq:E.sig n_Z102 = some sg_Z102 := rfl
theorem run_Z102 (n:Nat) (args:List Dv):run E (n + 1) n_Z102 args = evFn E (mkR (run E n)) sg_Z102 pol_Z102 F_Z102 n args := rfl
theorem sig_impl_isRising_eq:E.sig n_Z31 = some sg_Z31 := rfl
theorem run_Z31 (n:Nat) (args:List Dv):run E (n + 1) n_Z31 args = evFn E (mkR (run E n)) sg_Z31 pol_Z31 F_Z31 n args := rfl
theorem sig_impl_ValidSimplex_1_eq:E.sig n_Z13 = some sg_Z13 := rfl
theorem run_Z13 (n:Nat) (args:List Dv):run E (n + 1) n_Z13 args = evFn E (mkR (run E n)) sg_Z13 pol_Z13 F_Z13 n args := rfl
theorem sig_impl_isVertex_eq:E.sig n_Z33 = some sg_Z33 := rfl
theorem run_Z33 (n:Nat) (args:List Dv):run E (n + 1) n_Z33 args = evFn E (mkR (run E n)) sg_Z33 pol_Z33 F_Z33 n args := rfl
theorem sig_cmp_Or_int_eq:E.sig n_Z2 = some sg_Z2 := rfl
theorem run_Z2 (n:Nat) (args:List Dv):run E (n + 1) n_Z2 args = evFn E (mkR (run E n)) sg_Z2 pol_Z2 F_Z2 n args := rfl
theorem sig_cmp_Compare_int_eq:E.sig n_Z0 = some sg_Z0 := rfl
theorem run_Z0 (n:Nat) (args:List Dv):run E (n + 1) n_Z0 args = evFn E (mkR (run E n)) sg_Z0 pol_Z0 F_Z0 n args := rfl
theorem sig_slices_Compare_Sint64_int64_eq:E.sig n_Z76 = some sg_Z76 := rfl
theorem run_Z76 (n:Nat) (args:List Dv):run E (n + 1) n_Z76 args = evFn E (mkR (run E n)) sg_Z76 pol_Z76 F_Z76 n args := rfl
theorem sig_slices_IndexFunc_SSint64_Sint64_eq:E.sig n_Z86 = some sg_Z86 := rfl
theorem run_Z86 (n:Nat) (args:List Dv):run E (n + 1) n_Z86 args = evFn E (mkR (run E n)) sg_Z86 pol_Z86 F_Z86 n args := rfl
theorem sig_slices_Concat_Sint64_int64_eq:E.sig n_Z77 = some sg_Z77 := rfl
theorem run_Z77 (n:Nat) (args:List Dv):run E (n + 1) n_Z77 args = evFn E (mkR (run E n)) sg_Z77 pol_Z77 F_Z77 n args := rfl
theorem sig_impl_copyLists_eq:E.sig n_Z20 = some sg_Z20 := rfl
theorem run_Z20 (n:Nat) (args:List Dv):run E (n + 1) n_Z20 args = evFn E (mkR (run E n)) sg_Z20 pol_Z20 F_Z20 n args := rfl
theorem sig_slices_SortFunc_SSint64_Sint64_eq:E.sig n_Z92 = some sg_Z92 := rfl
theorem sig_slices_CompactFunc_SSint64_Sint64_eq:E.sig n_Z75 = some sg_Z75 := rfl
theorem sig_slices_Equal_Sint64_int64_eq:E.sig n_Z84 = some sg_Z84 := rfl
theorem run_Z84 (n:Nat) (args:List Dv):run E (n + 1) n_Z84 args = evFn E (mkR (run E n)) sg_Z84 pol_Z84 F_Z84 n args := rfl
theorem sig_spec_l00Same_eq:E.sig n_Z98 = some sg_Z98 := rfl
theorem run_Z98 (n:Nat) (args:List Dv):run E (n + 1) n_Z98 args = evFn E (mkR (run E n)) sg_Z98 pol_Z98 F_Z98 n args := rfl
theorem sig_impl_areElements_1_eq:E.sig n_Z15 = some sg_Z15 := rfl
theorem run_Z15 (n:Nat) (args:List Dv):run E (n + 1) n_Z15 args = evFn E (mkR (run E n)) sg_Z15 pol_Z15 F_Z15 n args := rfl
theorem sig_impl_isElement_eq:E.sig n_Z29 = some sg_Z29 := rfl
theorem run_Z29 (n:Nat) (args:List Dv):run E (n + 1) n_Z29 args = evFn E (mkR (run E n)) sg_Z29 pol_Z29 F_Z29 n args := rfl
theorem sig_spec_l00Rises_eq:E.sig n_Z97 = some sg_Z97 := rfl
theorem run_Z97 (n:Nat) (args:List Dv):run E (n + 1) n_Z97 args = evFn E (mkR (run E n)) sg_Z97 pol_Z97 F_Z97 n args := rfl
theorem sig_cmp_isNaN_int_eq:E.sig n_Z3 = some sg_Z3 := rfl
theorem run_Z3 (n:Nat) (args:List Dv):run E (n + 1) n_Z3 args = evFn E (mkR (run E n)) sg_Z3 pol_Z3 F_Z3 n args := rfl
theorem sig_cmp_Compare_int64_eq:E.sig n_Z1 = some sg_Z1 := rfl
theorem run_Z1 (n:Nat) (args:List Dv):run E (n + 1) n_Z1 args = evFn E (mkR (run E n)) sg_Z1 pol_Z1 F_Z1 n args := rfl
theorem sig_slices_Grow_Sint64_int64_eq:E.sig n_Z85 = some sg_Z85 := rfl
theorem sig_cmp_isNaN_int64_eq:E.sig n_Z4 = some sg_Z4 := rfl
theorem run_Z4 (n:Nat) (args:List Dv):run E (n + 1) n_Z4 args = evFn E (mkR (run E n)) sg_Z4 pol_Z4 F_Z4 n args := rfl
@[reducible] noncomputable def eC (R:Run) (q:Pol) (N:Nat) (l:List Nat) (F:Func) := evCode E R q N (sub l (bodyOf F))
@[reducible] noncomputable def kB (R:Run) (q:Pol) (k:Nat) (K:Kt) := kBlk (maskAt R q.blkM k) k K
@[reducible] noncomputable def kS (R:Run) (q:Pol) (k N:Nat) (l:List Nat) (F:Func) (K:Kt) := kSeq (maskAt R q.seqM k) (evCode E R q N (sub l (bodyOf F))) K
@[reducible] noncomputable def kL (R:Run) (q:Pol) (k N:Nat) (l:List Nat) (F:Func) (n:Nat) (K:Kt) := kLoop (evCode E R q N (sub l (bodyOf F))) (maskAt R q.loopM k) n K
@[reducible] noncomputable def lC (R:Run) (q:Pol) (k N:Nat) (l:List Nat) (F:Func) (n:Nat) (s:Ve.St) (K:Kt) := loopC (evCode E R q N (sub l (bodyOf F))) (maskAt R q.loopM k) n s K
end VeT

open Go Go.Proofs Ve
set_option linter.unusedVariables false
set_option maxRecDepth 100000
namespace VeT
@[reducible] noncomputable def q0_0 (R:Run) (N:Nat):=kS R pol_Z108 5 N [1,1,0,1,0,0,1,1] F_Z108
@[reducible] noncomputable def q0_1 (R:Run) (N:Nat):=kS R pol_Z108 14 N [1,1,1] F_Z108
@[reducible] noncomputable def q0_2 (R:Run) (N:Nat):=kS R pol_Z115 11 N [1,1,1] F_Z115
@[reducible] noncomputable def q0_3 (R:Run) (N:Nat):=kL R pol_Z108 4 N [1,1,0,1,0,0] F_Z108
theorem Z61.ev (R:Run) (N:Nat) (a0:(List Int)) (a1:Int):evFn E R sg_Z61 pol_Z61 F_Z61 N [⟨yL,a0⟩,⟨yI,a1⟩] = (bif (decide ((w64 (a1 - (List.length a0:Int))) < (0:Int))) then some ⟨o_Z61,((-1:Int),())⟩ else some ⟨o_Z61,((w64 (a1 - (List.length a0:Int))),())⟩) := by kernel_rfl
noncomputable def Z62.l0 (R:Run) (N n:Nat) (a:vK) (b e:Int):Option Dv := R.w (some ⟨(.c (.d yK a)::(.c (.d yI b)::(zd 3 (.c (.d yI e)::(zd 21 []))))),(zo 29 [])⟩) fun st => lC R pol_Z62 5 N [1,1,1,0,1,0,0] F_Z62 n st (kB R pol_Z62 0 (kS R pol_Z62 10 N [1,1,1,1] F_Z62 (kTop E sg_Z62 F_Z62)))
theorem Z62.l0_succ (R:Run) (hw:R.ok) (N n:Nat) (a:vK) (b c:Int):Z62.l0 R N (n + 1) a b c = (bif (decide (c < (List.length a:Int))) then ((idx? a c).bind fun y4 => ((callT R n_Z61 o_Z61 [⟨yL,(y4,()).1⟩,⟨yI,b⟩]).bind fun r5 => (bif (decide (r5.1 < (0:Int))) then some ⟨o_Z62,((-1:Int),())⟩ else (Z62.l0 R N n a r5.1 (w64 (c + (1:Int))))))) else some ⟨o_Z62,(b,())⟩) := (hw _ _).trans (by kernel_rfl)
theorem Z62.ev (R:Run) (N:Nat) (a0:vK) (a1:Int):evFn E R sg_Z62 pol_Z62 F_Z62 N [⟨yK,a0⟩,⟨yI,a1⟩] = (bif (decide ((w64 (a1 - (List.length a0:Int))) < (0:Int))) then some ⟨o_Z62,((-1:Int),())⟩ else (Z62.l0 R N N a0 (w64 (a1 - (List.length a0:Int))) (0:Int))) := by kernel_rfl
theorem Z60.ev (R:Run) (N:Nat) (a0:vK) (a1:Int):evFn E R sg_Z60 pol_Z60 F_Z60 N [⟨yK,a0⟩,⟨yI,a1⟩] = ((callT R n_Z62 o_Z62 [⟨yK,a0⟩,⟨yI,a1⟩]).bind fun r1 => (bif (decide (r1.1 < (0:Int))) then some ⟨o_Z60,((-1:Int),())⟩ else some ⟨o_Z60,(r1.1,())⟩)) := by kernel_rfl
theorem Z63.ev (R:Run) (N:Nat) (a0 a1 a2:Int) (a3:(List Int)) (a4:Int):evFn E R sg_Z63 pol_Z63 F_Z63 N [⟨yI,a0⟩,⟨yI,a1⟩,⟨yI,a2⟩,⟨yL,a3⟩,⟨yI,a4⟩] = ((callT R n_Z61 o_Z61 [⟨yL,a3⟩,⟨yI,a4⟩]).bind fun r1 => (bif (decide (r1.1 < (0:Int))) then some ⟨o_Z63,((-1:Int),())⟩ else some ⟨o_Z63,(r1.1,())⟩)) := by kernel_rfl
noncomputable def Z64.l0 (R:Run) (N n:Nat) (a:vN) (b e:Int):Option Dv := R.w (some ⟨(.c (.d yN a)::(.c (.d yI b)::(zd 3 (.c (.d yI e)::(zd 21 []))))),(zo 29 [])⟩) fun st => lC R pol_Z64 5 N [1,1,1,0,1,0,0] F_Z64 n st (kB R pol_Z64 0 (kS R pol_Z64 10 N [1,1,1,1] F_Z64 (kTop E sg_Z64 F_Z64)))
theorem Z64.l0_succ (R:Run) (hw:R.ok) (N n:Nat) (a:vN) (b c:Int):Z64.l0 R N (n + 1) a b c = (bif (decide (c < (List.length a:Int))) then ((idx? a c).bind fun y4 => ((callT R n_Z63 o_Z63 [⟨yI,y4.1⟩,⟨yI,y4.2.1⟩,⟨yI,y4.2.2.1⟩,⟨yL,y4.2.2.2.1⟩,⟨yI,b⟩]).bind fun r5 => (bif (decide (r5.1 < (0:Int))) then some ⟨o_Z64,((-1:Int),())⟩ else (Z64.l0 R N n a r5.1 (w64 (c + (1:Int))))))) else some ⟨o_Z64,(b,())⟩) := (hw _ _).trans (by kernel_rfl)
theorem Z64.ev (R:Run) (N:Nat) (a0:vN) (a1:Int):evFn E R sg_Z64 pol_Z64 F_Z64 N [⟨yN,a0⟩,⟨yI,a1⟩] = (bif (decide ((w64 (a1 - (List.length a0:Int))) < (0:Int))) then some ⟨o_Z64,((-1:Int),())⟩ else (Z64.l0 R N N a0 (w64 (a1 - (List.length a0:Int))) (0:Int))) := by kernel_rfl
theorem Z65.ev (R:Run) (N:Nat) (a0:vK) (a1:Int) (a2:(List Int)) (a3:vN) (a4:Int):evFn E R sg_Z65 pol_Z65 F_Z65 N [⟨yK,a0⟩,⟨yI,a1⟩,⟨yL,a2⟩,⟨yN,a3⟩,⟨yI,a4⟩] = ((callT R n_Z60 o_Z60 [⟨yK,a0⟩,⟨yI,a4⟩]).bind fun r1 => (bif (decide (r1.1 < (0:Int))) then some ⟨o_Z65,((-1:Int),())⟩ else ((callT R n_Z61 o_Z61 [⟨yL,a2⟩,⟨yI,r1.1⟩]).bind fun r2 => (bif (decide (r2.1 < (0:Int))) then some ⟨o_Z65,((-1:Int),())⟩ else ((callT R n_Z64 o_Z64 [⟨yN,a3⟩,⟨yI,r2.1⟩]).bind fun r3 => (bif (decide (r3.1 < (0:Int))) then some ⟨o_Z65,((-1:Int),())⟩ else some ⟨o_Z65,(r3.1,())⟩)))))) := by kernel_rfl
noncomputable def Z67.l0 (R:Run) (N n:Nat) (a:(List Int)) (b:Int) (e:(List Int)):Option Dv := R.w (some ⟨(.c (.d yL a)::(V.dead::(V.dead::(.c (.arr 7)::(.c (.d yI b)::(zd 17 [])))))),(zo 7 (some (.arr yI e true false false)::(zo 15 [])))⟩) fun st => lC R pol_Z67 3 N [1,1,0,1,0,0] F_Z67 n st (kB R pol_Z67 0 (kS R pol_Z67 6 N [1,1,1] F_Z67 (kTop E sg_Z67 F_Z67)))
theorem Z67.l0_succ (R:Run) (hw:R.ok) (N n:Nat) (a:(List Int)) (b:Int) (c:(List Int)):Z67.l0 R N (n + 1) a b c = (bif (decide (b < (List.length a:Int))) then ((idx? a b).bind fun y4 => ((chk (decide (0 ≤ b) && decide (b < (List.length c:Int)))).bind fun _ => (Z67.l0 R N n a (w64 (b + (1:Int))) (List.set c (Int.toNat b) (y4,()).1)))) else some ⟨o_Z67,(c,())⟩) := (hw _ _).trans (by kernel_rfl)
theorem Z67.ev (R:Run) (N:Nat) (a0:(List Int)):evFn E R sg_Z67 pol_Z67 F_Z67 N [⟨yL,a0⟩] = ((chk (decide (0 ≤ (List.length a0:Int)) && decide ((List.length a0:Int) * 8 ≤ 70368744177664))).bind fun _ => (Z67.l0 R N N a0 (0:Int) (List.replicate (Int.toNat (List.length a0:Int)) (0:Int)))) := by kernel_rfl
noncomputable def Z68.l0 (R:Run) (N n:Nat) (a:vK) (b:Int) (e:vK):Option Dv := R.w (some ⟨(.c (.d yK a)::(V.dead::(V.dead::(.c (.arr 7)::(.c (.d yI b)::(zd 18 [])))))),(zo 7 (some (.arr yL e true false false)::(zo 17 [])))⟩) fun st => lC R pol_Z68 3 N [1,1,0,1,0,0] F_Z68 n st (kB R pol_Z68 0 (kS R pol_Z68 6 N [1,1,1] F_Z68 (kTop E sg_Z68 F_Z68)))
theorem Z68.l0_succ (R:Run) (hw:R.ok) (N n:Nat) (a:vK) (b:Int) (c:vK):Z68.l0 R N (n + 1) a b c = (bif (decide (b < (List.length a:Int))) then ((idx? a b).bind fun y4 => ((callT R n_Z67 o_Z67 [⟨yL,(y4,()).1⟩]).bind fun r5 => ((chk (decide (0 ≤ b) && decide (b < (List.length c:Int)))).bind fun _ => (Z68.l0 R N n a (w64 (b + (1:Int))) (List.set c (Int.toNat b) r5.1))))) else some ⟨o_Z68,(c,())⟩) := (hw _ _).trans (by kernel_rfl)
theorem Z68.ev (R:Run) (N:Nat) (a0:vK):evFn E R sg_Z68 pol_Z68 F_Z68 N [⟨yK,a0⟩] = ((chk (decide (0 ≤ (List.length a0:Int)) && decide ((List.length a0:Int) * 24 ≤ 70368744177664))).bind fun _ => (Z68.l0 R N N a0 (0:Int) (List.replicate (Int.toNat (List.length a0:Int)) ([]:List Int)))) := by kernel_rfl
theorem Z66.ev (R:Run) (N:Nat) (a0:vK):evFn E R sg_Z66 pol_Z66 F_Z66 N [⟨yK,a0⟩] = ((callT R n_Z68 o_Z68 [⟨yK,a0⟩]).bind fun r1 => some ⟨o_Z66,(r1.1,())⟩) := by kernel_rfl
theorem Z69.ev (R:Run) (N:Nat) (a0 a1 a2:Int) (a3:(List Int)):evFn E R sg_Z69 pol_Z69 F_Z69 N [⟨yI,a0⟩,⟨yI,a1⟩,⟨yI,a2⟩,⟨yL,a3⟩] = ((callT R n_Z67 o_Z67 [⟨yL,a3⟩]).bind fun r1 => some ⟨o_Z69,(a0,a1,a2,r1.1,())⟩) := by kernel_rfl
noncomputable def Z70.l0 (R:Run) (N n:Nat) (a:vN) (b:Int) (e:vN):Option Dv := R.w (some ⟨(.c (.d yN a)::(V.dead::(V.dead::(.c (.arr 7)::(.c (.d yI b)::(zd 18 [])))))),(zo 7 (some (.arr (.st yM) e true false false)::(zo 17 [])))⟩) fun st => lC R pol_Z70 3 N [1,1,0,1,0,0] F_Z70 n st (kB R pol_Z70 0 (kS R pol_Z70 6 N [1,1,1] F_Z70 (kTop E sg_Z70 F_Z70)))
theorem Z70.l0_succ (R:Run) (hw:R.ok) (N n:Nat) (a:vN) (b:Int) (c:vN):Z70.l0 R N (n + 1) a b c = (bif (decide (b < (List.length a:Int))) then ((idx? a b).bind fun y4 => ((callT R n_Z69 o_Z69 [⟨yI,y4.1⟩,⟨yI,y4.2.1⟩,⟨yI,y4.2.2.1⟩,⟨yL,y4.2.2.2.1⟩]).bind fun r5 => ((chk (decide (0 ≤ b) && decide (b < (List.length c:Int)))).bind fun _ => (Z70.l0 R N n a (w64 (b + (1:Int))) (List.set c (Int.toNat b) (r5.1,r5.2.1,r5.2.2.1,r5.2.2.2.1,())))))) else some ⟨o_Z70,(c,())⟩) := (hw _ _).trans (by kernel_rfl)
theorem Z70.ev (R:Run) (N:Nat) (a0:vN):evFn E R sg_Z70 pol_Z70 F_Z70 N [⟨yN,a0⟩] = ((chk (decide (0 ≤ (List.length a0:Int)) && decide ((List.length a0:Int) * 48 ≤ 70368744177664))).bind fun _ => (Z70.l0 R N N a0 (0:Int) (List.replicate (Int.toNat (List.length a0:Int)) ((0:Int),(0:Int),(0:Int),([]:List Int),())))) := by kernel_rfl
theorem Z71.ev (R:Run) (N:Nat) (a0:vK) (a1:Int) (a2:(List Int)) (a3:vN):evFn E R sg_Z71 pol_Z71 F_Z71 N [⟨yK,a0⟩,⟨yI,a1⟩,⟨yL,a2⟩,⟨yN,a3⟩] = ((callT R n_Z66 o_Z66 [⟨yK,a0⟩]).bind fun r1 => ((callT R n_Z67 o_Z67 [⟨yL,a2⟩]).bind fun r2 => ((callT R n_Z70 o_Z70 [⟨yN,a3⟩]).bind fun r3 => some ⟨o_Z71,(r1.1,a1,r2.1,r3.1,())⟩))) := by kernel_rfl
theorem Z95.ev (R:Run) (N:Nat) (a0 a1 a2:Int):evFn E R sg_Z95 pol_Z95 F_Z95 N [⟨yI,a0⟩,⟨yI,a1⟩,⟨yI,a2⟩] = (bif (decide (a0 ≥ a1)) then some ⟨o_Z95,((decide (a0 ≤ a2)),())⟩ else some ⟨o_Z95,(false,())⟩) := by kernel_rfl
noncomputable def Z97.j1 (R:Run) (N a:Nat) (b:(List Int)) (e f g:Int) (h:Bool):Option Dv := R.w (some ⟨(.c (.d yL b)::(.c (.d yI e)::(.c (.d yI f)::(zd 4 (.c (.d yI g)::(zd 29 (.c (.d .bool h)::[]))))))),(zo 41 [])⟩) fun st => eC R pol_Z97 N [1,0,1,0,0,1,0,0,1] F_Z97 st (kB R pol_Z97 1 (kS R pol_Z97 3 N [1,0,1,0,0,1,1] F_Z97 (kL R pol_Z97 2 N [1,0,1,0,0] F_Z97 a (kB R pol_Z97 0 (kS R pol_Z97 6 N [1,1] F_Z97 (kTop E sg_Z97 F_Z97))))))
noncomputable def Z97.l0 (R:Run) (N n:Nat) (a:(List Int)) (b e f:Int):Option Dv := R.w (some ⟨(.c (.d yL a)::(.c (.d yI b)::(.c (.d yI e)::(zd 4 (.c (.d yI f)::(zd 30 [])))))),(zo 41 [])⟩) fun st => lC R pol_Z97 2 N [1,0,1,0,0] F_Z97 n st (kB R pol_Z97 0 (kS R pol_Z97 6 N [1,1] F_Z97 (kTop E sg_Z97 F_Z97)))
theorem Z97.j1_eq (R:Run) (hw:R.ok) (N a:Nat) (b:(List Int)) (c d e:Int) (f:Bool):Z97.j1 R N a b c d e f = (bif f then some ⟨o_Z97,(false,())⟩ else (Z97.l0 R N a b c d (w64 (e + (1:Int))))) := (hw _ _).trans (by kernel_rfl)
theorem Z97.l0_succ (R:Run) (hw:R.ok) (N n:Nat) (a:(List Int)) (b c d:Int):Z97.l0 R N (n + 1) a b c d = (bif (decide (d < (List.length a:Int))) then ((idx? a d).bind fun y5 => ((callT R n_Z95 o_Z95 [⟨yI,(y5,()).1⟩,⟨yI,b⟩,⟨yI,c⟩]).bind fun r6 => (bif (!r6.1) then (Z97.j1 R N n a b c d true) else (bif (decide (d > (0:Int))) then ((idx? a (w64 (d - (1:Int)))).bind fun y16 => ((idx? a d).bind fun y17 => (Z97.j1 R N n a b c d (decide ((y16,()).1 ≥ (y17,()).1))))) else (Z97.j1 R N n a b c d false))))) else some ⟨o_Z97,(true,())⟩) := (hw _ _).trans (by kernel_rfl)
theorem Z97.ev (R:Run) (N:Nat) (a0:(List Int)) (a1 a2:Int):evFn E R sg_Z97 pol_Z97 F_Z97 N [⟨yL,a0⟩,⟨yI,a1⟩,⟨yI,a2⟩] = (Z97.l0 R N N a0 a1 a2 (0:Int)) := by kernel_rfl
theorem Z109.ev (R:Run) (N:Nat) (a0:(List Int)):evFn E R sg_Z109 pol_Z109 F_Z109 N [⟨yL,a0⟩] = ((callT R n_Z95 o_Z95 [⟨yI,(List.length a0:Int)⟩,⟨yI,(1:Int)⟩,⟨yI,(4:Int)⟩]).bind fun r1 => (bif r1.1 then ((callT R n_Z97 o_Z97 [⟨yL,a0⟩,⟨yI,(0:Int)⟩,⟨yI,(9:Int)⟩]).bind fun r2 => some ⟨o_Z109,(r2.1,())⟩) else some ⟨o_Z109,(false,())⟩)) := by kernel_rfl
noncomputable def Z103.l0 (R:Run) (N n:Nat) (a b:(List Int)) (e:Int):Option Dv := R.w (some ⟨(.c (.d yL a)::(.c (.d yL b)::(zd 3 (.c (.d yI e)::(zd 34 []))))),(zo 42 [])⟩) fun st => lC R pol_Z103 4 N [1,1,0,1,0,0] F_Z103 n st (kB R pol_Z103 0 (kS R pol_Z103 8 N [1,1,1] F_Z103 (kTop E sg_Z103 F_Z103)))
theorem Z103.l0_succ (R:Run) (hw:R.ok) (N n:Nat) (a b:(List Int)) (c:Int):Z103.l0 R N (n + 1) a b c = (bif (decide (c < (List.length a:Int))) then ((idx? a c).bind fun y4 => ((idx? b c).bind fun y5 => (bif ((y4,()).1 != (y5,()).1) then ((idx? a c).bind fun y6 => ((idx? b c).bind fun y7 => some ⟨o_Z103,((decide ((y6,()).1 < (y7,()).1)),())⟩)) else (Z103.l0 R N n a b (w64 (c + (1:Int))))))) else some ⟨o_Z103,(false,())⟩) := (hw _ _).trans (by kernel_rfl)
theorem Z103.ev (R:Run) (N:Nat) (a0 a1:(List Int)):evFn E R sg_Z103 pol_Z103 F_Z103 N [⟨yL,a0⟩,⟨yL,a1⟩] = (bif ((List.length a0:Int) != (List.length a1:Int)) then some ⟨o_Z103,((decide ((List.length a0:Int) < (List.length a1:Int))),())⟩ else (Z103.l0 R N N a0 a1 (0:Int))) := by kernel_rfl
theorem Z96.ev (R:Run) (N:Nat) (a0:(List Int)):evFn E R sg_Z96 pol_Z96 F_Z96 N [⟨yL,a0⟩] = ((chk (decide ((List.length ([]:List Int) + List.length a0) * 8 ≤ 70368744177664))).bind fun _ => some ⟨o_Z96,((([]:List Int) ++ a0),())⟩) := by kernel_rfl
theorem Z104.ev (R:Run) (N:Nat) (a0:(List Int)) (a1:Int):evFn E R sg_Z104 pol_Z104 F_Z104 N [⟨yL,a0⟩,⟨yI,a1⟩] = ((chk (decide (0 ≤ a1) && decide (a1 ≤ (List.length a0:Int)))).bind fun _ => ((callT R n_Z96 o_Z96 [⟨yL,(List.take (Int.toNat a1) a0)⟩]).bind fun r1 => ((chk (decide (0 ≤ (w64 (a1 + (1:Int)))) && decide ((w64 (a1 + (1:Int))) ≤ (List.length a0:Int)))).bind fun _ => ((chk (decide ((List.length r1.1 + List.length (List.drop (Int.toNat (w64 (a1 + (1:Int)))) a0)) * 8 ≤ 70368744177664))).bind fun _ => some ⟨o_Z104,((r1.1 ++ (List.drop (Int.toNat (w64 (a1 + (1:Int)))) a0)),())⟩)))) := by kernel_rfl
noncomputable def Z98.l0 (R:Run) (N n:Nat) (a b:(List Int)) (e:Int):Option Dv := R.w (some ⟨(.c (.d yL a)::(.c (.d yL b)::(zd 3 (.c (.d yI e)::(zd 20 []))))),(zo 28 [])⟩) fun st => lC R pol_Z98 4 N [1,1,0,1,0,0] F_Z98 n st (kB R pol_Z98 0 (kS R pol_Z98 8 N [1,1,1] F_Z98 (kTop E sg_Z98 F_Z98)))
theorem Z98.l0_succ (R:Run) (hw:R.ok) (N n:Nat) (a b:(List Int)) (c:Int):Z98.l0 R N (n + 1) a b c = (bif (decide (c < (List.length a:Int))) then ((idx? a c).bind fun y4 => ((idx? b c).bind fun y5 => (bif ((y4,()).1 != (y5,()).1) then some ⟨o_Z98,(false,())⟩ else (Z98.l0 R N n a b (w64 (c + (1:Int))))))) else some ⟨o_Z98,(true,())⟩) := (hw _ _).trans (by kernel_rfl)
theorem Z98.ev (R:Run) (N:Nat) (a0 a1:(List Int)):evFn E R sg_Z98 pol_Z98 F_Z98 N [⟨yL,a0⟩,⟨yL,a1⟩] = (bif ((List.length a0:Int) != (List.length a1:Int)) then some ⟨o_Z98,(false,())⟩ else (Z98.l0 R N N a0 a1 (0:Int))) := by kernel_rfl
noncomputable def Z106.l0 (R:Run) (N n:Nat) (a:(vK × Unit)) (b:(List Int)) (e:Int):Option Dv := R.w (some ⟨(.c (.ip (.cons yK .nil) a 0)::(.c (.d yL b)::(zd 3 (.c (.d yI e)::(zd 19 []))))),(zo 27 [])⟩) fun st => lC R pol_Z106 2 N [1,0,1,0,0] F_Z106 n st (kB R pol_Z106 0 (kS R pol_Z106 6 N [1,1] F_Z106 (kTop E sg_Z106 F_Z106)))
theorem Z106.l0_succ (R:Run) (hw:R.ok) (N n:Nat) (a:(vK × Unit)) (b:(List Int)) (c:Int):Z106.l0 R N (n + 1) a b c = (bif (decide (c < (List.length a.1:Int))) then ((idx? a.1 c).bind fun y4 => ((callT R n_Z98 o_Z98 [⟨yL,(y4,()).1⟩,⟨yL,b⟩]).bind fun r5 => (bif r5.1 then some ⟨o_Z106,(c,())⟩ else (Z106.l0 R N n a b (w64 (c + (1:Int))))))) else some ⟨o_Z106,((-1:Int),())⟩) := (hw _ _).trans (by kernel_rfl)
theorem Z106.ev (R:Run) (N:Nat) (a0:(vK × Unit)) (a1:(List Int)):evFn E R sg_Z106 pol_Z106 F_Z106 N [⟨(.ptr (.cons yK .nil)),a0⟩,⟨yL,a1⟩] = (Z106.l0 R N N a0 a1 (0:Int)) := by kernel_rfl
noncomputable def Z108.j3 (R:Run) (N a b:Nat) (e:(vK × Unit)) (f:Int) (g:(List Int)) (h:Int) (i:Bool):Option Dv := R.w (some ⟨(.c (.ip (.cons yK .nil) e 0)::(V.dead::(V.dead::(.c (.d yI f)::(.c (.d yL g)::(.c (.d yI h)::(zd 50 (.c (.d .bool i)::(zd 8 []))))))))),(zo 66 [])⟩) fun st => eC R pol_Z108 N [1,1,0,1,0,0,1,0,0,1,1,1,0,0,0,1] F_Z108 st (kS R pol_Z108 12 N [1,1,0,1,0,0,1,0,0,1,1,1,0,0,1] F_Z108 (kL R pol_Z108 10 N [1,1,0,1,0,0,1,0,0,1,1,1,0,0] F_Z108 b (kB R pol_Z108 2 (kB R pol_Z108 1 (q0_0 R N (q0_3 R N a (kB R pol_Z108 0 (q0_1 R N (kTop E sg_Z108 F_Z108)))))))))
noncomputable def Z108.l2 (R:Run) (N a n:Nat) (b:(vK × Unit)) (e:Int) (f:(List Int)) (g:Int):Option Dv := R.w (some ⟨(.c (.ip (.cons yK .nil) b 0)::(V.dead::(V.dead::(.c (.d yI e)::(.c (.d yL f)::(.c (.d yI g)::(zd 59 []))))))),(zo 66 [])⟩) fun st => lC R pol_Z108 10 N [1,1,0,1,0,0,1,0,0,1,1,1,0,0] F_Z108 n st (kB R pol_Z108 2 (kB R pol_Z108 1 (q0_0 R N (q0_3 R N a (kB R pol_Z108 0 (q0_1 R N (kTop E sg_Z108 F_Z108)))))))
noncomputable def Z108.j1 (R:Run) (N a:Nat) (b:(vK × Unit)) (e:Int) (f:(List Int)) (g:Bool):Option Dv := R.w (some ⟨(.c (.ip (.cons yK .nil) b 0)::(V.dead::(V.dead::(.c (.d yI e)::(.c (.d yL f)::(zd 42 (.c (.d .bool g)::(zd 17 [])))))))),(zo 66 [])⟩) fun st => eC R pol_Z108 N [1,1,0,1,0,0,1,0,0,1,0,1] F_Z108 st (kS R pol_Z108 9 N [1,1,0,1,0,0,1,0,0,1,1] F_Z108 (kB R pol_Z108 1 (q0_0 R N (q0_3 R N a (kB R pol_Z108 0 (q0_1 R N (kTop E sg_Z108 F_Z108)))))))
noncomputable def Z108.l0 (R:Run) (N n:Nat) (a:(vK × Unit)) (b:Int):Option Dv := R.w (some ⟨(.c (.ip (.cons yK .nil) a 0)::(V.dead::(V.dead::(.c (.d yI b)::(zd 61 []))))),(zo 66 [])⟩) fun st => lC R pol_Z108 4 N [1,1,0,1,0,0] F_Z108 n st (kB R pol_Z108 0 (q0_1 R N (kTop E sg_Z108 F_Z108)))
theorem Z108.j3_eq (R:Run) (hw:R.ok) (N a b:Nat) (c:(vK × Unit)) (d:Int) (e:(List Int)) (f:Int) (g:Bool):Z108.j3 R N a b c d e f g = (bif g then ((callT R n_Z104 o_Z104 [⟨yL,e⟩,⟨yI,f⟩]).bind fun r18 => ((callT R n_Z106 o_Z106 [⟨(.ptr (.cons yK .nil)),c⟩,⟨yL,r18.1⟩]).bind fun r19 => (bif (decide (r19.1 < (0:Int))) then some ⟨o_Z108,(false,())⟩ else (Z108.l2 R N a b c d e (w64 (f + (1:Int))))))) else (Z108.l0 R N a c (w64 (d + (1:Int))))) := (hw _ _).trans (by kernel_rfl)
theorem Z108.l2_succ (R:Run) (hw:R.ok) (N a n:Nat) (b:(vK × Unit)) (c:Int) (d:(List Int)) (e:Int):Z108.l2 R N a (n + 1) b c d e = (bif (decide (e < (List.length d:Int))) then (Z108.j3 R N a n b c d e (decide ((List.length d:Int) > (1:Int)))) else (Z108.j3 R N a n b c d e false)) := (hw _ _).trans (by kernel_rfl)
theorem Z108.j1_eq (R:Run) (hw:R.ok) (N a:Nat) (b:(vK × Unit)) (c:Int) (d:(List Int)) (e:Bool):Z108.j1 R N a b c d e = (bif e then some ⟨o_Z108,(false,())⟩ else (Z108.l2 R N a N b c d (0:Int))) := (hw _ _).trans (by kernel_rfl)
theorem Z108.l0_succ (R:Run) (hw:R.ok) (N n:Nat) (a:(vK × Unit)) (b:Int):Z108.l0 R N (n + 1) a b = (bif (decide (b < (List.length a.1:Int))) then ((idx? a.1 b).bind fun y3 => ((callT R n_Z109 o_Z109 [⟨yL,(y3,()).1⟩]).bind fun r4 => (bif (!r4.1) then (Z108.j1 R N n a b ((y3,()).1) true) else (bif (decide (b > (0:Int))) then ((idx? a.1 (w64 (b - (1:Int)))).bind fun y31 => ((callT R n_Z103 o_Z103 [⟨yL,(y31,()).1⟩,⟨yL,(y3,()).1⟩]).bind fun r32 => (Z108.j1 R N n a b ((y3,()).1) (!r32.1)))) else (Z108.j1 R N n a b ((y3,()).1) false))))) else some ⟨o_Z108,(true,())⟩) := (hw _ _).trans (by kernel_rfl)
theorem Z108.ev (R:Run) (N:Nat) (a0:(vK × Unit)):evFn E R sg_Z108 pol_Z108 F_Z108 N [⟨(.ptr (.cons yK .nil)),a0⟩] = (bif (decide ((List.length a0.1:Int) > (48:Int))) then some ⟨o_Z108,(false,())⟩ else (Z108.l0 R N N a0 (0:Int))) := by kernel_rfl
noncomputable def Z99.l0 (R:Run) (N n:Nat) (a b:Int):Option Dv := R.w (some ⟨(.c (.d yI a)::(V.dead::(V.dead::(.c (.d yI b)::(zd 14 []))))),(zo 19 [])⟩) fun st => lC R pol_Z99 4 N [1,1,0,1,0,0] F_Z99 n st (kB R pol_Z99 0 (kS R pol_Z99 8 N [1,1,1] F_Z99 (kTop E sg_Z99 F_Z99)))
theorem Z99.l0_succ (R:Run) (hw:R.ok) (N n:Nat) (a b:Int):Z99.l0 R N (n + 1) a b = (bif (decide ((w64 (b * b)) ≤ a)) then ((chk (b != 0)).bind fun _ => (bif ((Int.tmod a b) == (0:Int)) then some ⟨o_Z99,(false,())⟩ else (Z99.l0 R N n a (w64 (b + (1:Int)))))) else some ⟨o_Z99,(true,())⟩) := (hw _ _).trans (by kernel_rfl)
theorem Z99.ev (R:Run) (N:Nat) (a0:Int):evFn E R sg_Z99 pol_Z99 F_Z99 N [⟨yI,a0⟩] = ((callT R n_Z95 o_Z95 [⟨yI,a0⟩,⟨yI,(2:Int)⟩,⟨yI,(251:Int)⟩]).bind fun r1 => (bif (!r1.1) then some ⟨o_Z99,(false,())⟩ else (Z99.l0 R N N a0 (2:Int)))) := by kernel_rfl
theorem Z94.ev (R:Run) (N:Nat) (a0:Int):evFn E R sg_Z94 pol_Z94 F_Z94 N [⟨yI,a0⟩] = ((callT R n_Z99 o_Z99 [⟨yI,a0⟩]).bind fun r1 => some ⟨o_Z94,(r1.1,())⟩) := by kernel_rfl
noncomputable def Z117.l0 (R:Run) (N n:Nat) (a:(vK × Unit)) (b e f g:Int):Option Dv := R.w (some ⟨(.c (.ip (.cons yK .nil) a 0)::(.c (.d yI b)::(.c (.d yI e)::(zd 4 (.c (.d yI f)::(.c (.d yI g)::(zd 27 []))))))),(zo 39 [])⟩) fun st => lC R pol_Z117 3 N [1,1,0,1,0,0] F_Z117 n st (kB R pol_Z117 0 (kS R pol_Z117 7 N [1,1,1] F_Z117 (kTop E sg_Z117 F_Z117)))
theorem Z117.l0_succ (R:Run) (hw:R.ok) (N n:Nat) (a:(vK × Unit)) (b c d e:Int):Z117.l0 R N (n + 1) a b c d e = (bif (decide (e < b)) then ((idx? a.1 e).bind fun y6 => (bif (decide ((List.length (y6,()).1:Int) > (1:Int))) then ((idx? a.1 e).bind fun y7 => (Z117.l0 R N n a b c (w64 (d + (List.length (y7,()).1:Int))) (w64 (e + (1:Int))))) else (Z117.l0 R N n a b c d (w64 (e + (1:Int)))))) else some ⟨o_Z117,((w64 (d + c)),())⟩) := (hw _ _).trans (by kernel_rfl)
theorem Z117.ev (R:Run) (N:Nat) (a0:(vK × Unit)) (a1 a2:Int):evFn E R sg_Z117 pol_Z117 F_Z117 N [⟨(.ptr (.cons yK .nil)),a0⟩,⟨yI,a1⟩,⟨yI,a2⟩] = (Z117.l0 R N N a0 a1 a2 (0:Int) (0:Int)) := by kernel_rfl
noncomputable def Z105.j1 (R:Run) (N a:Nat) (b:(vK × Unit)) (e:(List Int)) (f:Int) (g:Bool) (h:(List Int)):Option Dv := R.w (some ⟨(.c (.ip (.cons yK .nil) b 0)::(zd 4 (.c (.d yL e)::(.c (.arr 15)::(.c (.d yI f)::(zd 16 (.c (.d .bool g)::(zd 11 [])))))))),(zo 15 (some (.arr yI h true false false)::(zo 22 [])))⟩) fun st => eC R pol_Z105 N [1,1,1,0,1,0,0,0,1] F_Z105 st (kS R pol_Z105 6 N [1,1,1,0,1,0,0,1] F_Z105 (kL R pol_Z105 4 N [1,1,1,0,1,0,0] F_Z105 a (kB R pol_Z105 0 (kS R pol_Z105 7 N [1,1,1,1] F_Z105 (kTop E sg_Z105 F_Z105)))))
noncomputable def Z105.l0 (R:Run) (N n:Nat) (a:(vK × Unit)) (b:(List Int)) (e:Int) (f:(List Int)):Option Dv := R.w (some ⟨(.c (.ip (.cons yK .nil) a 0)::(zd 4 (.c (.d yL b)::(.c (.arr 15)::(.c (.d yI e)::(zd 28 [])))))),(zo 15 (some (.arr yI f true false false)::(zo 22 [])))⟩) fun st => lC R pol_Z105 4 N [1,1,1,0,1,0,0] F_Z105 n st (kB R pol_Z105 0 (kS R pol_Z105 7 N [1,1,1,1] F_Z105 (kTop E sg_Z105 F_Z105)))
theorem Z105.j1_eq (R:Run) (hw:R.ok) (N a:Nat) (b:(vK × Unit)) (c:(List Int)) (d:Int) (e:Bool) (f:(List Int)):Z105.j1 R N a b c d e f = (bif e then ((callT R n_Z104 o_Z104 [⟨yL,c⟩,⟨yI,d⟩]).bind fun r11 => ((callT R n_Z106 o_Z106 [⟨(.ptr (.cons yK .nil)),b⟩,⟨yL,r11.1⟩]).bind fun r12 => ((chk (decide ((List.length f + List.length [r12.1]) * 8 ≤ 70368744177664))).bind fun _ => (Z105.l0 R N a b c (w64 (d + (1:Int))) (f ++ [r12.1]))))) else some ⟨o_Z105,(f,())⟩) := (hw _ _).trans (by kernel_rfl)
theorem Z105.l0_succ (R:Run) (hw:R.ok) (N n:Nat) (a:(vK × Unit)) (b:(List Int)) (c:Int) (d:(List Int)):Z105.l0 R N (n + 1) a b c d = (bif (decide (c < (List.length b:Int))) then (Z105.j1 R N n a b c (decide ((List.length b:Int) > (1:Int))) d) else (Z105.j1 R N n a b c false d)) := (hw _ _).trans (by kernel_rfl)
theorem Z105.ev (R:Run) (N:Nat) (a0:(vK × Unit)) (a1:Int):evFn E R sg_Z105 pol_Z105 F_Z105 N [⟨(.ptr (.cons yK .nil)),a0⟩,⟨yI,a1⟩] = ((idx? a0.1 a1).bind fun y1 => (Z105.l0 R N N a0 ((y1,()).1) (0:Int) ([]:List Int))) := by kernel_rfl
noncomputable def Z100.l0 (R:Run) (N n:Nat) (a:(List Int)) (b e f:Int):Option Dv := R.w (some ⟨(.c (.d yL a)::(.c (.d yI b)::(.c (.d yI e)::(zd 4 (.c (.d yI f)::(zd 18 [])))))),(zo 29 [])⟩) fun st => lC R pol_Z100 2 N [1,0,1,0,0] F_Z100 n st (kB R pol_Z100 0 (kS R pol_Z100 6 N [1,1] F_Z100 (kTop E sg_Z100 F_Z100)))
theorem Z100.l0_succ (R:Run) (hw:R.ok) (N n:Nat) (a:(List Int)) (b c d:Int):Z100.l0 R N (n + 1) a b c d = (bif (decide (d < (List.length a:Int))) then ((idx? a d).bind fun y5 => ((callT R n_Z95 o_Z95 [⟨yI,(y5,()).1⟩,⟨yI,(0:Int)⟩,⟨yI,(w64 (c - (1:Int)))⟩]).bind fun r6 => (bif (!r6.1) then some ⟨o_Z100,(false,())⟩ else (Z100.l0 R N n a b c (w64 (d + (1:Int))))))) else some ⟨o_Z100,(((List.length a:Int) == b),())⟩) := (hw _ _).trans (by kernel_rfl)
theorem Z100.ev (R:Run) (N:Nat) (a0:(List Int)) (a1 a2:Int):evFn E R sg_Z100 pol_Z100 F_Z100 N [⟨yL,a0⟩,⟨yI,a1⟩,⟨yI,a2⟩] = (Z100.l0 R N N a0 a1 a2 (0:Int)) := by kernel_rfl
theorem Z101.ev (R:Run) (N:Nat) (a0:vM):evFn E R sg_Z101 pol_Z101 F_Z101 N [⟨(.ptr yM),a0⟩] = ((callT R n_Z94 o_Z94 [⟨yI,a0.1⟩]).bind fun r1 => (bif r1.1 then ((callT R n_Z95 o_Z95 [⟨yI,a0.2.1⟩,⟨yI,(0:Int)⟩,⟨yI,(32:Int)⟩]).bind fun r2 => (bif r2.1 then ((callT R n_Z95 o_Z95 [⟨yI,a0.2.2.1⟩,⟨yI,(0:Int)⟩,⟨yI,(32:Int)⟩]).bind fun r3 => (bif r3.1 then ((callT R n_Z100 o_Z100 [⟨yL,a0.2.2.2.1⟩,⟨yI,(w64 (a0.2.1 * a0.2.2.1))⟩,⟨yI,a0.1⟩]).bind fun r4 => some ⟨o_Z101,(r4.1,())⟩) else some ⟨o_Z101,(false,())⟩)) else some ⟨o_Z101,(false,())⟩)) else some ⟨o_Z101,(false,())⟩)) := by kernel_rfl
theorem Z113.ev (R:Run) (N:Nat) (a0:vS) (a1 a2:Int) (a3:vM):evFn E R sg_Z113 pol_Z113 F_Z113 N [⟨(.ptr yS),a0⟩,⟨yI,a1⟩,⟨yI,a2⟩,⟨(.ptr yM),a3⟩] = ((callT R n_Z105 o_Z105 [⟨(.ptr (.cons yK .nil)),(a0.1,())⟩,⟨yI,a1⟩]).bind fun r1 => ((idx? r1.1 a2).bind fun y2 => ((callT R n_Z101 o_Z101 [⟨(.ptr yM),a3⟩]).bind fun r3 => (bif r3.1 then (bif (a3.1 == a0.2.1) then ((idx? a0.2.2.1 a1).bind fun y4 => (bif (a3.2.1 == (y4,()).1) then ((idx? a0.2.2.1 (y2,()).1).bind fun y5 => some ⟨o_Z113,((a3.2.2.1 == (y5,()).1),())⟩) else some ⟨o_Z113,(false,())⟩)) else some ⟨o_Z113,(false,())⟩) else some ⟨o_Z113,(false,())⟩)))) := by kernel_rfl
noncomputable def Z107.l0 (R:Run) (N n:Nat) (a:(vK × Unit)) (b e:Int) (f:(List Int)):Option Dv := R.w (some ⟨(.c (.ip (.cons yK .nil) a 0)::(.c (.d yI b)::(zd 3 (.c (.arr 7)::(.c (.d yI e)::(zd 26 [])))))),(zo 7 (some (.arr yI f true false false)::(zo 27 [])))⟩) fun st => lC R pol_Z107 3 N [1,1,0,1,0,0] F_Z107 n st (kB R pol_Z107 0 (kS R pol_Z107 7 N [1,1,1] F_Z107 (kTop E sg_Z107 F_Z107)))
theorem Z107.l0_succ (R:Run) (hw:R.ok) (N n:Nat) (a:(vK × Unit)) (b c:Int) (d:(List Int)):Z107.l0 R N (n + 1) a b c d = (bif (decide (c < (List.length a.1:Int))) then ((idx? a.1 c).bind fun y5 => (bif ((List.length (y5,()).1:Int) == (w64 (b + (1:Int)))) then ((chk (decide ((List.length d + List.length [c]) * 8 ≤ 70368744177664))).bind fun _ => (Z107.l0 R N n a b (w64 (c + (1:Int))) (d ++ [c]))) else (Z107.l0 R N n a b (w64 (c + (1:Int))) d))) else some ⟨o_Z107,(d,())⟩) := (hw _ _).trans (by kernel_rfl)
theorem Z107.ev (R:Run) (N:Nat) (a0:(vK × Unit)) (a1:Int):evFn E R sg_Z107 pol_Z107 F_Z107 N [⟨(.ptr (.cons yK .nil)),a0⟩,⟨yI,a1⟩] = (Z107.l0 R N N a0 a1 (0:Int) ([]:List Int)) := by kernel_rfl
noncomputable def Z119.l0 (R:Run) (N n:Nat) (a b:(List Int)) (e f:Int):Option Dv := R.w (some ⟨(V.dead::(.c (.d yL a)::(zd 5 (.c (.d yL b)::(.c (.d yI e)::(.c (.d yI f)::(zd 19 []))))))),(zo 32 [])⟩) fun st => lC R pol_Z119 4 N [1,1,1,0,1,0,0] F_Z119 n st (kB R pol_Z119 0 (kS R pol_Z119 7 N [1,1,1,1] F_Z119 (kTop E sg_Z119 F_Z119)))
theorem Z119.l0_succ (R:Run) (hw:R.ok) (N n:Nat) (a b:(List Int)) (c d:Int):Z119.l0 R N (n + 1) a b c d = (bif (decide (d < (List.length b:Int))) then ((idx? b d).bind fun y6 => ((idx? a (y6,()).1).bind fun y7 => (Z119.l0 R N n a b (w64 (c + (y7,()).1)) (w64 (d + (1:Int)))))) else some ⟨o_Z119,(c,())⟩) := (hw _ _).trans (by kernel_rfl)
theorem Z119.ev (R:Run) (N:Nat) (a0:(vK × Unit)) (a1:(List Int)) (a2:Int):evFn E R sg_Z119 pol_Z119 F_Z119 N [⟨(.ptr (.cons yK .nil)),a0⟩,⟨yL,a1⟩,⟨yI,a2⟩] = ((callT R n_Z107 o_Z107 [⟨(.ptr (.cons yK .nil)),a0⟩,⟨yI,a2⟩]).bind fun r1 => (Z119.l0 R N N a1 r1.1 (0:Int) (0:Int))) := by kernel_rfl
noncomputable def Z118.l0 (R:Run) (N n:Nat) (a:(vK × Unit)) (b:(List Int)) (e:Int):Option Dv := R.w (some ⟨(.c (.ip (.cons yK .nil) a 0)::(.c (.d yL b)::(zd 3 (.c (.d yI e)::(zd 17 []))))),(zo 25 [])⟩) fun st => lC R pol_Z118 4 N [1,1,0,1,0,0] F_Z118 n st (kB R pol_Z118 0 (kS R pol_Z118 8 N [1,1,1] F_Z118 (kTop E sg_Z118 F_Z118)))
theorem Z118.l0_succ (R:Run) (hw:R.ok) (N n:Nat) (a:(vK × Unit)) (b:(List Int)) (c:Int):Z118.l0 R N (n + 1) a b c = (bif (decide (c ≤ (3:Int))) then ((callT R n_Z119 o_Z119 [⟨(.ptr (.cons yK .nil)),a⟩,⟨yL,b⟩,⟨yI,c⟩]).bind fun r5 => (bif (decide (r5.1 > (32:Int))) then some ⟨o_Z118,(false,())⟩ else (Z118.l0 R N n a b (w64 (c + (1:Int)))))) else some ⟨o_Z118,(true,())⟩) := (hw _ _).trans (by kernel_rfl)
theorem Z118.ev (R:Run) (N:Nat) (a0:(vK × Unit)) (a1:(List Int)):evFn E R sg_Z118 pol_Z118 F_Z118 N [⟨(.ptr (.cons yK .nil)),a0⟩,⟨yL,a1⟩] = ((callT R n_Z100 o_Z100 [⟨yL,a1⟩,⟨yI,(List.length a0.1:Int)⟩,⟨yI,(4:Int)⟩]).bind fun r1 => (bif (!r1.1) then some ⟨o_Z118,(false,())⟩ else (Z118.l0 R N N a0 a1 (0:Int)))) := by kernel_rfl
theorem Z111.ev (R:Run) (N:Nat) (a0:(vK × Unit)):evFn E R sg_Z111 pol_Z111 F_Z111 N [⟨(.ptr (.cons yK .nil)),a0⟩] = ((callT R n_Z117 o_Z117 [⟨(.ptr (.cons yK .nil)),a0⟩,⟨yI,(List.length a0.1:Int)⟩,⟨yI,(0:Int)⟩]).bind fun r1 => some ⟨o_Z111,(r1.1,())⟩) := by kernel_rfl
noncomputable def Z115.j3 (R:Run) (N a b:Nat) (e:vS) (f g:Int) (h:Bool):Option Dv := R.w (some ⟨(.c (.ip yS e 0)::(V.dead::(V.dead::(.c (.d yI f)::(.c (.d yI g)::(zd 68 (.c (.d .bool h)::(zd 18 [])))))))),(zo 93 [])⟩) fun st => eC R pol_Z115 N [1,1,0,1,0,0,1,0,0,1,0,0,0,1] F_Z115 st (kS R pol_Z115 9 N [1,1,0,1,0,0,1,0,0,1,0,0,1] F_Z115 (kL R pol_Z115 7 N [1,1,0,1,0,0,1,0,0,1,0,0] F_Z115 b (kB R pol_Z115 2 (kB R pol_Z115 1 (kS R pol_Z115 5 N [1,1,0,1,0,0,1,1] F_Z115 (kL R pol_Z115 4 N [1,1,0,1,0,0] F_Z115 a (kB R pol_Z115 0 (q0_2 R N (kTop E sg_Z115 F_Z115)))))))))
noncomputable def Z115.l2 (R:Run) (N a n:Nat) (b:vS) (e f:Int):Option Dv := R.w (some ⟨(.c (.ip yS b 0)::(V.dead::(V.dead::(.c (.d yI e)::(.c (.d yI f)::(zd 87 [])))))),(zo 93 [])⟩) fun st => lC R pol_Z115 7 N [1,1,0,1,0,0,1,0,0,1,0,0] F_Z115 n st (kB R pol_Z115 2 (kB R pol_Z115 1 (kS R pol_Z115 5 N [1,1,0,1,0,0,1,1] F_Z115 (kL R pol_Z115 4 N [1,1,0,1,0,0] F_Z115 a (kB R pol_Z115 0 (q0_2 R N (kTop E sg_Z115 F_Z115)))))))
noncomputable def Z115.l1 (R:Run) (N n:Nat) (a:vS) (b:Int):Option Dv := R.w (some ⟨(.c (.ip yS a 0)::(V.dead::(V.dead::(.c (.d yI b)::(zd 88 []))))),(zo 93 [])⟩) fun st => lC R pol_Z115 4 N [1,1,0,1,0,0] F_Z115 n st (kB R pol_Z115 0 (q0_2 R N (kTop E sg_Z115 F_Z115)))
noncomputable def Z115.j0 (R:Run) (N:Nat) (a:vS) (b:Bool):Option Dv := R.w (some ⟨(.c (.ip yS a 0)::(zd 39 (.c (.d .bool b)::(zd 51 [])))),(zo 93 [])⟩) fun st => eC R pol_Z115 N [1,0,1] F_Z115 st (kS R pol_Z115 3 N [1,1] F_Z115 (kTop E sg_Z115 F_Z115))
theorem Z115.j3_eq (R:Run) (hw:R.ok) (N a b:Nat) (c:vS) (d e:Int) (f:Bool):Z115.j3 R N a b c d e f = (bif f then ((callT R n_Z117 o_Z117 [⟨(.ptr (.cons yK .nil)),(c.1,())⟩,⟨yI,d⟩,⟨yI,e⟩]).bind fun r15 => ((idx? c.2.2.2.1 r15.1).bind fun y16 => ((callT R n_Z113 o_Z113 [⟨(.ptr yS),c⟩,⟨yI,d⟩,⟨yI,e⟩,⟨(.ptr yM),y16⟩]).bind fun r17 => (bif (!r17.1) then some ⟨o_Z115,(false,())⟩ else (Z115.l2 R N a b c d (w64 (e + (1:Int)))))))) else (Z115.l1 R N a c (w64 (d + (1:Int))))) := (hw _ _).trans (by kernel_rfl)
theorem Z115.l2_succ (R:Run) (hw:R.ok) (N a n:Nat) (b:vS) (c d:Int):Z115.l2 R N a (n + 1) b c d = ((idx? b.1 c).bind fun y9 => (bif (decide (d < (List.length (y9,()).1:Int))) then ((idx? b.1 c).bind fun y10 => (Z115.j3 R N a n b c d (decide ((List.length (y10,()).1:Int) > (1:Int))))) else (Z115.j3 R N a n b c d false))) := (hw _ _).trans (by kernel_rfl)
theorem Z115.l1_succ (R:Run) (hw:R.ok) (N n:Nat) (a:vS) (b:Int):Z115.l1 R N (n + 1) a b = (bif (decide (b < (List.length a.1:Int))) then (Z115.l2 R N n N a b (0:Int)) else some ⟨o_Z115,(true,())⟩) := (hw _ _).trans (by kernel_rfl)
theorem Z115.j0_eq (R:Run) (hw:R.ok) (N:Nat) (a:vS) (b:Bool):Z115.j0 R N a b = (bif b then some ⟨o_Z115,(false,())⟩ else (Z115.l1 R N N a (0:Int))) := (hw _ _).trans (by kernel_rfl)
theorem Z115.ev (R:Run) (N:Nat) (a0:vS):evFn E R sg_Z115 pol_Z115 F_Z115 N [⟨(.ptr yS),a0⟩] = ((callT R n_Z108 o_Z108 [⟨(.ptr (.cons yK .nil)),(a0.1,())⟩]).bind fun r1 => (bif (!r1.1) then (Z115.j0 R N a0 true) else ((callT R n_Z94 o_Z94 [⟨yI,a0.2.1⟩]).bind fun r27 => (bif (!r27.1) then (Z115.j0 R N a0 true) else ((callT R n_Z118 o_Z118 [⟨(.ptr (.cons yK .nil)),(a0.1,())⟩,⟨yL,a0.2.2.1⟩]).bind fun r30 => (bif (!r30.1) then (Z115.j0 R N a0 true) else ((callT R n_Z111 o_Z111 [⟨(.ptr (.cons yK .nil)),(a0.1,())⟩]).bind fun r33 => (Z115.j0 R N a0 ((List.length a0.2.2.2.1:Int) != r33.1))))))))) := by kernel_rfl
theorem Z112.ev (R:Run) (N:Nat) (a0:vS) (a1:Int):evFn E R sg_Z112 pol_Z112 F_Z112 N [⟨(.ptr yS),a0⟩,⟨yI,a1⟩] = ((callT R n_Z95 o_Z95 [⟨yI,a1⟩,⟨yI,(0:Int)⟩,⟨yI,(w64 ((List.length a0.1:Int) - (1:Int)))⟩]).bind fun r1 => some ⟨o_Z112,(r1.1,())⟩) := by kernel_rfl
noncomputable def Z110.l0 (R:Run) (N n:Nat) (a:(vK × Unit)) (b e:Int) (f:vK):Option Dv := R.w (some ⟨(.c (.ip (.cons yK .nil) a 0)::(.c (.d yI b)::(V.dead::(V.dead::(.c (.box 4 0)::(.c (.box 5 0)::(.c (.d yI e)::(zd 36 [])))))))),(zo 4 (some (.box [.nils yL] false false)::(some (.box [.arr 7] false false)::(none::(some (.arr yL f true false false)::(zo 38 []))))))⟩) fun st => lC R pol_Z110 3 N [1,1,0,1,0,0] F_Z110 n st (kB R pol_Z110 0 (kS R pol_Z110 7 N [1,1,1] F_Z110 (kTop E sg_Z110 F_Z110)))
theorem Z110.l0_succ (R:Run) (hw:R.ok) (N n:Nat) (a:(vK × Unit)) (b c:Int) (d:vK):Z110.l0 R N (n + 1) a b c d = (bif (decide (c < (List.length a.1:Int))) then ((idx? a.1 c).bind fun y5 => (bif (decide ((List.length (y5,()).1:Int) ≤ (w64 (b + (1:Int))))) then ((idx? a.1 c).bind fun y6 => ((callT R n_Z96 o_Z96 [⟨yL,(y6,()).1⟩]).bind fun r7 => ((chk (decide ((List.length d + List.length [r7.1]) * 24 ≤ 70368744177664))).bind fun _ => (Z110.l0 R N n a b (w64 (c + (1:Int))) (d ++ [r7.1]))))) else (Z110.l0 R N n a b (w64 (c + (1:Int))) d))) else some ⟨o_Z110,(d,())⟩) := (hw _ _).trans (by kernel_rfl)
theorem Z110.ev (R:Run) (N:Nat) (a0:(vK × Unit)) (a1:Int):evFn E R sg_Z110 pol_Z110 F_Z110 N [⟨(.ptr (.cons yK .nil)),a0⟩,⟨yI,a1⟩] = (Z110.l0 R N N a0 a1 (0:Int) ([]:List (List Int))) := by kernel_rfl
theorem Z102.ev (R:Run) (N:Nat) (a0 a1 a2:Int):evFn E R sg_Z102 pol_Z102 F_Z102 N [⟨yI,a0⟩,⟨yI,a1⟩,⟨yI,a2⟩] = ((chk (decide (0 ≤ (w64 (a1 * a2))) && decide ((w64 (a1 * a2)) * 8 ≤ 70368744177664))).bind fun _ => some ⟨o_Z102,(a0,a1,a2,(List.replicate (Int.toNat (w64 (a1 * a2))) (0:Int)),())⟩) := by kernel_rfl
noncomputable def Z114.l1 (R:Run) (N a n:Nat) (b:(vK × Unit)) (e:Int) (f:(List Int)) (g:Int) (h:(List Int)) (i j k:Int) (l:vN) (m:vK) (o:(List Int)):Option Dv := R.w (some ⟨(.c (.ip (.cons yK .nil) b 0)::(.c (.d yI e)::(.c (.d yL f)::(zd 3 (.c (.box 6 0)::(.c (.box 7 0)::(.c (.d yI g)::(.c (.d yL h)::(.c (.d yI i)::(zd 44 [])))))))))),(zo 6 (some (.box [.nils yL,.d yI j,.nils yI,.nils (.st yM)] false false)::(some (.box [.arr 59,.d yI k,.arr 60,.arr 16] false false)::(zo 8 (some (.arr (.st yM) l true false false)::(zo 42 (some (.arr yL m true false false)::(some (.arr yI o true false false)::[]))))))))⟩) fun st => lC R pol_Z114 7 N [1,1,0,1,0,0,1,0,0,1,1,0,0] F_Z114 n st (kB R pol_Z114 2 (kB R pol_Z114 1 (kS R pol_Z114 4 N [1,1,0,1,0,0,1,1] F_Z114 (kL R pol_Z114 3 N [1,1,0,1,0,0] F_Z114 a (kB R pol_Z114 0 (kS R pol_Z114 10 N [1,1,1] F_Z114 (kTop E sg_Z114 F_Z114)))))))
noncomputable def Z114.l0 (R:Run) (N n:Nat) (a:(vK × Unit)) (b:Int) (e:(List Int)) (f g h:Int) (i:vN) (j:vK) (k:(List Int)):Option Dv := R.w (some ⟨(.c (.ip (.cons yK .nil) a 0)::(.c (.d yI b)::(.c (.d yL e)::(zd 3 (.c (.box 6 0)::(.c (.box 7 0)::(.c (.d yI f)::(zd 46 [])))))))),(zo 6 (some (.box [.nils yL,.d yI g,.nils yI,.nils (.st yM)] false false)::(some (.box [.arr 59,.d yI h,.arr 60,.arr 16] false false)::(zo 8 (some (.arr (.st yM) i true false false)::(zo 42 (some (.arr yL j true false false)::(some (.arr yI k true false false)::[]))))))))⟩) fun st => lC R pol_Z114 3 N [1,1,0,1,0,0] F_Z114 n st (kB R pol_Z114 0 (kS R pol_Z114 10 N [1,1,1] F_Z114 (kTop E sg_Z114 F_Z114)))
theorem Z114.l1_succ (R:Run) (hw:R.ok) (N a n:Nat) (b:(vK × Unit)) (c:Int) (d:(List Int)) (e:Int) (f:(List Int)) (g h i:Int) (j:vN) (k:vK) (l:(List Int)):Z114.l1 R N a (n + 1) b c d e f g h i j k l = (bif (decide (g < (List.length f:Int))) then ((idx? d e).bind fun y24 => ((idx? f g).bind fun y25 => ((idx? d (y25,()).1).bind fun y26 => ((callT R n_Z102 o_Z102 [⟨yI,c⟩,⟨yI,(y24,()).1⟩,⟨yI,(y26,()).1⟩]).bind fun r27 => ((chk (decide ((List.length j + List.length [(r27.1,r27.2.1,r27.2.2.1,r27.2.2.2.1,())]) * 48 ≤ 70368744177664))).bind fun _ => (Z114.l1 R N a n b c d e f (w64 (g + (1:Int))) h i (j ++ [(r27.1,r27.2.1,r27.2.2.1,r27.2.2.2.1,())]) k l)))))) else (Z114.l0 R N a b c d (w64 (e + (1:Int))) h i j k l)) := (hw _ _).trans (by kernel_rfl)
theorem Z114.l0_succ (R:Run) (hw:R.ok) (N n:Nat) (a:(vK × Unit)) (b:Int) (c:(List Int)) (d e f:Int) (g:vN) (h:vK) (i:(List Int)):Z114.l0 R N (n + 1) a b c d e f g h i = (bif (decide (d < (List.length a.1:Int))) then ((callT R n_Z105 o_Z105 [⟨(.ptr (.cons yK .nil)),a⟩,⟨yI,d⟩]).bind fun r12 => (Z114.l1 R N n N a b c d r12.1 (0:Int) e f g h i)) else some ⟨o_Z114,(h,f,i,g,())⟩) := (hw _ _).trans (by kernel_rfl)
theorem Z114.ev (R:Run) (N:Nat) (a0:(vK × Unit)) (a1:Int) (a2:(List Int)):evFn E R sg_Z114 pol_Z114 F_Z114 N [⟨(.ptr (.cons yK .nil)),a0⟩,⟨yI,a1⟩,⟨yL,a2⟩] = ((callT R n_Z110 o_Z110 [⟨(.ptr (.cons yK .nil)),a0⟩,⟨yI,(3:Int)⟩]).bind fun r1 => ((callT R n_Z96 o_Z96 [⟨yL,a2⟩]).bind fun r2 => (Z114.l0 R N N a0 a1 a2 (0:Int) (0:Int) a1 ([]:List vM) r1.1 r2.1))) := by kernel_rfl
noncomputable def Z116.l1 (R:Run) (N n:Nat) (a:vS) (b e f:Int) (g:vN) (h:vK) (i:(List Int)):Option Dv := R.w (some ⟨(.c (.ip yS a 0)::(V.dead::(.c (.box 2 0)::(.c (.box 3 0)::(.c (.d yI b)::(zd 36 [])))))),(none::(none::(some (.box [.nils yL,.d yI e,.nils yI,.nils (.st yM)] false false)::(some (.box [.arr 44,.d yI f,.arr 45,.arr 42] false false)::(zo 38 (some (.arr (.st yM) g true false false)::(none::(some (.arr yL h true false false)::(some (.arr yI i true false false)::[])))))))))⟩) fun st => lC R pol_Z116 3 N [1,1,0,1,0,0] F_Z116 n st (kB R pol_Z116 0 (kS R pol_Z116 6 N [1,1,1] F_Z116 (kTop E sg_Z116 F_Z116)))
noncomputable def Z116.j0 (R:Run) (N:Nat) (a:vS) (b e:Int) (f:vN) (g:vK) (h:(List Int)):Option Dv := R.w (some ⟨(.c (.ip yS a 0)::(V.dead::(.c (.box 2 0)::(.c (.box 3 0)::(zd 37 []))))),(none::(none::(some (.box [.nils yL,.d yI b,.nils yI,.nils (.st yM)] false false)::(some (.box [.arr 44,.d yI e,.arr 45,.arr 42] false false)::(zo 38 (some (.arr (.st yM) f true false false)::(none::(some (.arr yL g true false false)::(some (.arr yI h true false false)::[])))))))))⟩) fun st => eC R pol_Z116 N [1,1] F_Z116 st (kTop E sg_Z116 F_Z116)
theorem Z116.l1_succ (R:Run) (hw:R.ok) (N n:Nat) (a:vS) (b c d:Int) (e:vN) (f:vK) (g:(List Int)):Z116.l1 R N (n + 1) a b c d e f g = (bif (decide (b < (List.length a.2.2.2.1:Int))) then ((idx? a.2.2.2.1 b).bind fun y15 => ((callT R n_Z96 o_Z96 [⟨yL,y15.2.2.2.1⟩]).bind fun r16 => ((chk (decide (0 ≤ b) && decide (b < (List.length e:Int)))).bind fun _ => (Option.bind (e)[(Int.toNat b)]? fun y17 => (Z116.l1 R N n a (w64 (b + (1:Int))) c d (List.set e (Int.toNat b) (y17.1,y17.2.1,y17.2.2.1,r16.1,())) f g))))) else some ⟨o_Z116,(f,d,g,e,())⟩) := (hw _ _).trans (by kernel_rfl)
theorem Z116.j0_eq (R:Run) (hw:R.ok) (N:Nat) (a:vS) (b c:Int) (d:vN) (e:vK) (f:(List Int)):Z116.j0 R N a b c d e f = (Z116.l1 R N N a (0:Int) b c d e f) := (hw _ _).trans (by kernel_rfl)
theorem Z116.ev (R:Run) (N:Nat) (a0:vS):evFn E R sg_Z116 pol_Z116 F_Z116 N [⟨(.ptr yS),a0⟩] = (both ((callT R n_Z114 o_Z114 [⟨(.ptr (.cons yK .nil)),(a0.1,())⟩,⟨yI,a0.2.1⟩,⟨yL,a0.2.2.1⟩]).bind fun r1 => (Z116.j0 R N a0 (0:Int) r1.2.1 r1.2.2.2.1 r1.1 r1.2.2.1)) ((callT R n_Z114 o_Z114 [⟨(.ptr (.cons yK .nil)),(a0.1,())⟩,⟨yI,a0.2.1⟩,⟨yL,a0.2.2.1⟩]).bind fun r25 => (Z116.j0 R N a0 (0:Int) r25.2.1 r25.2.2.2.1 r25.1 r25.2.2.1))) := by kernel_rfl
noncomputable def Z93.j1 (R:Run) (N:Nat) (a b:Int) (e:Bool) (f:vK) (g:Int) (h:(List Int)) (i:vN) (j k l:Int) (m:(List Int)) (o:Int):Option Dv := R.w (some ⟨(V.dead::(.c (.d yI a)::(.c (.d yI b)::(V.dead::(.c (.box 4 0)::(V.dead::(V.dead::(.c (.box 7 0)::(.c (.box 8 0)::(zd 34 (.c (.d .bool e)::(zd 19 [])))))))))))),(zo 4 (some (.box [.d yK f,.d yI g,.d yL h,.d yN i] false false)::(none::(none::(some (.box [.d yI j,.d yI k,.d yI l,.d yL m] false false)::(some (.box [.nils yL,.d yI o,.nils yI,.nils (.st yM)] false false)::(zo 68 [])))))))⟩) fun st => eC R pol_Z93 N [1,1,0,1] F_Z93 st (kS R pol_Z93 5 N [1,1,1] F_Z93 (kTop E sg_Z93 F_Z93))
noncomputable def Z93.j0 (R:Run) (N:Nat) (a b:Int) (e:Bool) (f:vK) (g:Int) (h:(List Int)) (i:vN) (j k l:Int) (m:(List Int)) (o:Int):Option Dv := R.w (some ⟨(V.dead::(.c (.d yI a)::(.c (.d yI b)::(V.dead::(.c (.box 4 0)::(V.dead::(V.dead::(.c (.box 7 0)::(.c (.box 8 0)::(zd 7 (.c (.d .bool e)::(zd 46 [])))))))))))),(zo 4 (some (.box [.d yK f,.d yI g,.d yL h,.d yN i] false false)::(none::(none::(some (.box [.d yI j,.d yI k,.d yI l,.d yL m] false false)::(some (.box [.nils yL,.d yI o,.nils yI,.nils (.st yM)] false false)::(zo 68 [])))))))⟩) fun st => eC R pol_Z93 N [1,0,1] F_Z93 st (kS R pol_Z93 3 N [1,1] F_Z93 (kTop E sg_Z93 F_Z93))
theorem Z93.j1_eq (R:Run) (hw:R.ok) (N:Nat) (a b:Int) (c:Bool) (d:vK) (e:Int) (f:(List Int)) (g:vN) (h i j:Int) (k:(List Int)) (l:Int):Z93.j1 R N a b c d e f g h i j k l = (bif c then some ⟨o_Z93,(([]:List (List Int)),(0:Int),([]:List Int),([]:List vM),(2:Int),())⟩ else ((callT R n_Z113 o_Z113 [⟨(.ptr yS),(d,e,f,g,())⟩,⟨yI,a⟩,⟨yI,b⟩,⟨(.ptr yM),(h,i,j,k,())⟩]).bind fun r27 => (bif (!r27.1) then some ⟨o_Z93,(([]:List (List Int)),(0:Int),([]:List Int),([]:List vM),(6:Int),())⟩ else ((callT R n_Z116 o_Z116 [⟨(.ptr yS),(d,e,f,g,())⟩]).bind fun r28 => ((callT R n_Z117 o_Z117 [⟨(.ptr (.cons yK .nil)),((d,e,f,g,()).1,())⟩,⟨yI,a⟩,⟨yI,b⟩]).bind fun r29 => ((callT R n_Z96 o_Z96 [⟨yL,k⟩]).bind fun r30 => ((chk (decide (0 ≤ r29.1) && decide (r29.1 < (List.length r28.2.2.2.1:Int)))).bind fun _ => (Option.bind (r28.2.2.2.1)[(Int.toNat r29.1)]? fun y31 => some ⟨o_Z93,(r28.1,r28.2.1,r28.2.2.1,(List.set r28.2.2.2.1 (Int.toNat r29.1) (y31.1,y31.2.1,y31.2.2.1,r30.1,())),(0:Int),())⟩)))))))) := (hw _ _).trans (by kernel_rfl)
theorem Z93.j0_eq (R:Run) (hw:R.ok) (N:Nat) (a b:Int) (c:Bool) (d:vK) (e:Int) (f:(List Int)) (g:vN) (h i j:Int) (k:(List Int)) (l:Int):Z93.j0 R N a b c d e f g h i j k l = (bif c then some ⟨o_Z93,(([]:List (List Int)),(0:Int),([]:List Int),([]:List vM),(1:Int),())⟩ else ((callT R n_Z112 o_Z112 [⟨(.ptr yS),(d,e,f,g,())⟩,⟨yI,a⟩]).bind fun r14 => (bif (!r14.1) then (Z93.j1 R N a b true d e f g h i j k l) else ((idx? d a).bind fun y32 => (bif (decide ((List.length (y32,()).1:Int) < (2:Int))) then (Z93.j1 R N a b true d e f g h i j k l) else ((idx? d a).bind fun y45 => ((callT R n_Z95 o_Z95 [⟨yI,b⟩,⟨yI,(0:Int)⟩,⟨yI,(w64 ((List.length (y45,()).1:Int) - (1:Int)))⟩]).bind fun r46 => (Z93.j1 R N a b (!r46.1) d e f g h i j k l)))))))) := (hw _ _).trans (by kernel_rfl)
theorem Z93.ev (R:Run) (N:Nat) (a0:vK) (a1:Int) (a2:(List Int)) (a3:vN) (a4 a5 a6 a7 a8:Int) (a9:(List Int)):evFn E R sg_Z93 pol_Z93 F_Z93 N [⟨yK,a0⟩,⟨yI,a1⟩,⟨yL,a2⟩,⟨yN,a3⟩,⟨yI,a4⟩,⟨yI,a5⟩,⟨yI,a6⟩,⟨yI,a7⟩,⟨yI,a8⟩,⟨yL,a9⟩] = ((callT R n_Z115 o_Z115 [⟨(.ptr yS),(a0,a1,a2,a3,())⟩]).bind fun r1 => (bif (!r1.1) then (Z93.j0 R N a4 a5 true a0 a1 a2 a3 a6 a7 a8 a9 (0:Int)) else ((callT R n_Z101 o_Z101 [⟨(.ptr yM),(a6,a7,a8,a9,())⟩]).bind fun r59 => (Z93.j0 R N a4 a5 (!r59.1) a0 a1 a2 a3 a6 a7 a8 a9 (0:Int))))) := by kernel_rfl
noncomputable def Z31.l0 (R:Run) (N n:Nat) (a:(List Int)) (b:Int):Option Dv := R.w (some ⟨(.c (.d yL a)::(V.dead::(V.dead::(.c (.d yI b)::(zd 16 []))))),(zo 21 [])⟩) fun st => lC R pol_Z31 2 N [1,0,1,0,0] F_Z31 n st (kB R pol_Z31 0 (kS R pol_Z31 6 N [1,1] F_Z31 (kTop E sg_Z31 F_Z31)))
theorem Z31.l0_succ (R:Run) (hw:R.ok) (N n:Nat) (a:(List Int)) (b:Int):Z31.l0 R N (n + 1) a b = (bif (decide (b < (List.length a:Int))) then ((idx? a (w64 (b - (1:Int)))).bind fun y3 => ((idx? a b).bind fun y4 => (bif (decide ((y3,()).1 ≥ (y4,()).1)) then some ⟨o_Z31,(false,())⟩ else (Z31.l0 R N n a (w64 (b + (1:Int))))))) else some ⟨o_Z31,(true,())⟩) := (hw _ _).trans (by kernel_rfl)
theorem Z31.ev (R:Run) (N:Nat) (a0:(List Int)):evFn E R sg_Z31 pol_Z31 F_Z31 N [⟨yL,a0⟩] = (Z31.l0 R N N a0 (1:Int)) := by kernel_rfl
theorem Z41.ev (R:Run) (N:Nat) (a0 a1 a2:Int):evFn E R sg_Z41 pol_Z41 F_Z41 N [⟨yI,a0⟩,⟨yI,a1⟩,⟨yI,a2⟩] = (bif (decide (a0 ≥ a1)) then some ⟨o_Z41,((decide (a0 ≤ a2)),())⟩ else some ⟨o_Z41,(false,())⟩) := by kernel_rfl
theorem Z33.ev (R:Run) (N:Nat) (a0:Int):evFn E R sg_Z33 pol_Z33 F_Z33 N [⟨yI,a0⟩] = ((callT R n_Z41 o_Z41 [⟨yI,a0⟩,⟨yI,(0:Int)⟩,⟨yI,(9:Int)⟩]).bind fun r1 => some ⟨o_Z33,(r1.1,())⟩) := by kernel_rfl
theorem Z13.ev (R:Run) (N:Nat) (a0:Int):evFn E R sg_Z13 pol_Z13 F_Z13 N [⟨yI,a0⟩] = ((callT R n_Z33 o_Z33 [⟨yI,a0⟩]).bind fun r1 => some ⟨o_Z13,((!r1.1),())⟩) := by kernel_rfl
noncomputable def Z89.l0 (R:Run) (N n:Nat) (a:(List Int)) (b e:Int):Option Dv := R.w (some ⟨(.c (.d yL a)::(.c (.d (.fn n_Z13 .nil) ())::(zd 5 (.c (.d yI b)::(.c (.d yI e)::(zd 10 [])))))),(zo 21 [])⟩) fun st => lC R pol_Z88 2 N [1,0,1,0,0] F_Z88 n st (kB R pol_Z88 0 (kS R pol_Z88 7 N [1,1] F_Z88 (kTop E sg_Z88 F_Z88)))
theorem Z89.l0_succ (R:Run) (hw:R.ok) (N n:Nat) (a:(List Int)) (b c:Int):Z89.l0 R N (n + 1) a b c = (bif (decide (c < b)) then ((idx? a c).bind fun y4 => ((callT R n_Z13 o_Z13 [⟨yI,(y4,()).1⟩]).bind fun r5 => (bif r5.1 then some ⟨o_Z88,(c,())⟩ else (Z89.l0 R N n a b (w64 (c + (1:Int))))))) else some ⟨o_Z88,((-1:Int),())⟩) := (hw _ _).trans (by kernel_rfl)
theorem Z89.ev (R:Run) (N:Nat) (a0:(List Int)):evFn E R sg_Z88 pol_Z88 F_Z88 N [⟨yL,a0⟩,⟨(.fn n_Z13 .nil),()⟩] = (Z89.l0 R N N a0 (List.length a0:Int) (0:Int)) := by kernel_rfl
theorem Z81.ev (R:Run) (N:Nat) (a0:(List Int)):evFn E R sg_Z80 pol_Z80 F_Z80 N [⟨yL,a0⟩,⟨(.fn n_Z13 .nil),()⟩] = ((callT R n_Z88 o_Z88 [⟨yL,a0⟩,⟨(.fn n_Z13 .nil),()⟩]).bind fun r1 => some ⟨o_Z80,((decide (r1.1 ≥ (0:Int))),())⟩) := by kernel_rfl
theorem Z12.ev (R:Run) (N:Nat) (a0:(List Int)):evFn E R sg_Z12 pol_Z12 F_Z12 N [⟨yL,a0⟩] = (bif (decide ((List.length a0:Int) ≥ (1:Int))) then (bif (decide ((List.length a0:Int) ≤ (4:Int))) then ((callT R n_Z31 o_Z31 [⟨yL,a0⟩]).bind fun r1 => (bif r1.1 then ((callT R n_Z80 o_Z80 [⟨yL,a0⟩,⟨(.fn n_Z13 .nil),()⟩]).bind fun r2 => some ⟨o_Z12,((!r2.1),())⟩) else some ⟨o_Z12,(false,())⟩)) else some ⟨o_Z12,(false,())⟩) else some ⟨o_Z12,(false,())⟩) := by kernel_rfl
theorem Z3.ev (R:Run) (N:Nat) (a0:Int):evFn E R sg_Z3 pol_Z3 F_Z3 N [⟨yI,a0⟩] = some ⟨o_Z3,((a0 != a0),())⟩ := by kernel_rfl
theorem Z0.ev (R:Run) (N:Nat) (a0 a1:Int):evFn E R sg_Z0 pol_Z0 F_Z0 N [⟨yI,a0⟩,⟨yI,a1⟩] = ((callT R n_Z3 o_Z3 [⟨yI,a0⟩]).bind fun r1 => ((callT R n_Z3 o_Z3 [⟨yI,a1⟩]).bind fun r2 => (bif r1.1 then (bif r2.1 then some ⟨o_Z0,((0:Int),())⟩ else some ⟨o_Z0,((-1:Int),())⟩) else (bif r2.1 then some ⟨o_Z0,((1:Int),())⟩ else (bif (decide (a0 < a1)) then some ⟨o_Z0,((-1:Int),())⟩ else (bif (decide (a0 > a1)) then some ⟨o_Z0,((1:Int),())⟩ else some ⟨o_Z0,((0:Int),())⟩)))))) := by kernel_rfl
theorem Z4.ev (R:Run) (N:Nat) (a0:Int):evFn E R sg_Z4 pol_Z4 F_Z4 N [⟨yI,a0⟩] = some ⟨o_Z4,((a0 != a0),())⟩ := by kernel_rfl
theorem Z1.ev (R:Run) (N:Nat) (a0 a1:Int):evFn E R sg_Z1 pol_Z1 F_Z1 N [⟨yI,a0⟩,⟨yI,a1⟩] = ((callT R n_Z4 o_Z4 [⟨yI,a0⟩]).bind fun r1 => ((callT R n_Z4 o_Z4 [⟨yI,a1⟩]).bind fun r2 => (bif r1.1 then (bif r2.1 then some ⟨o_Z1,((0:Int),())⟩ else some ⟨o_Z1,((-1:Int),())⟩) else (bif r2.1 then some ⟨o_Z1,((1:Int),())⟩ else (bif (decide (a0 < a1)) then some ⟨o_Z1,((-1:Int),())⟩ else (bif (decide (a0 > a1)) then some ⟨o_Z1,((1:Int),())⟩ else some ⟨o_Z1,((0:Int),())⟩)))))) := by kernel_rfl
noncomputable def Z76.l0 (R:Run) (N n:Nat) (a b e:(List Int)) (f g:Int):Option Dv := R.w (some ⟨(.c (.d yL a)::(.c (.d yL b)::(zd 7 (.c (.d yL e)::(.c (.d yI f)::(.c (.d yI g)::(zd 24 []))))))),(zo 38 [])⟩) fun st => lC R pol_Z76 2 N [1,0,1,0,0] F_Z76 n st (kB R pol_Z76 0 (kS R pol_Z76 11 N [1,1] F_Z76 (kTop E sg_Z76 F_Z76)))
theorem Z76.l0_succ (R:Run) (hw:R.ok) (N n:Nat) (a b c:(List Int)) (d e:Int):Z76.l0 R N (n + 1) a b c d e = (bif (decide (e < d)) then ((idx? c e).bind fun y6 => (bif (decide (e ≥ (List.length b:Int))) then some ⟨o_Z76,((1:Int),())⟩ else ((idx? b e).bind fun y7 => ((callT R n_Z1 o_Z1 [⟨yI,(y6,()).1⟩,⟨yI,(y7,()).1⟩]).bind fun r8 => (bif (r8.1 != (0:Int)) then some ⟨o_Z76,(r8.1,())⟩ else (Z76.l0 R N n a b c d (w64 (e + (1:Int))))))))) else (bif (decide ((List.length a:Int) < (List.length b:Int))) then some ⟨o_Z76,((-1:Int),())⟩ else some ⟨o_Z76,((0:Int),())⟩)) := (hw _ _).trans (by kernel_rfl)
theorem Z76.ev (R:Run) (N:Nat) (a0 a1:(List Int)):evFn E R sg_Z76 pol_Z76 F_Z76 N [⟨yL,a0⟩,⟨yL,a1⟩] = (Z76.l0 R N N a0 a1 a0 (List.length a0:Int) (0:Int)) := by kernel_rfl
noncomputable def Z2.l0 (R:Run) (N n:Nat) (a:Int) (b:(List Int)) (e f:Int):Option Dv := R.w (some ⟨(zd 3 (.c (.d yI a)::(V.dead::(V.dead::(.c (.d yL b)::(.c (.d yI e)::(.c (.d yI f)::(zd 9 [])))))))),(zo 19 [])⟩) fun st => lC R pol_Z2 3 N [1,1,0,1,0,0] F_Z2 n st (kB R pol_Z2 0 (kS R pol_Z2 8 N [1,1,1] F_Z2 (kTop E sg_Z2 F_Z2)))
theorem Z2.l0_succ (R:Run) (hw:R.ok) (N n:Nat) (a:Int) (b:(List Int)) (c d:Int):Z2.l0 R N (n + 1) a b c d = (bif (decide (d < c)) then ((idx? b d).bind fun y5 => (bif ((y5,()).1 != a) then some ⟨o_Z2,((y5,()).1,())⟩ else (Z2.l0 R N n a b c (w64 (d + (1:Int)))))) else some ⟨o_Z2,(a,())⟩) := (hw _ _).trans (by kernel_rfl)
theorem Z2.ev (R:Run) (N:Nat) (a0:(List Int)):evFn E R sg_Z2 pol_Z2 F_Z2 N [⟨yL,a0⟩] = (Z2.l0 R N N (0:Int) a0 (List.length a0:Int) (0:Int)) := by kernel_rfl
theorem Z19.ev (R:Run) (N:Nat) (a0 a1:(List Int)):evFn E R sg_Z19 pol_Z19 F_Z19 N [⟨yL,a0⟩,⟨yL,a1⟩] = ((callT R n_Z0 o_Z0 [⟨yI,(List.length a0:Int)⟩,⟨yI,(List.length a1:Int)⟩]).bind fun r1 => ((callT R n_Z76 o_Z76 [⟨yL,a0⟩,⟨yL,a1⟩]).bind fun r2 => ((callT R n_Z2 o_Z2 [⟨yL,[r1.1,r2.1]⟩]).bind fun r3 => some ⟨o_Z19,(r3.1,())⟩))) := by kernel_rfl
noncomputable def Z77.l1 (R:Run) (N n:Nat) (a:vK) (b e:Int) (f:(List Int)):Option Dv := R.w (some ⟨(zd 6 (.c (.arr 37)::(zd 18 (.c (.d yK a)::(.c (.d yI b)::(.c (.d yI e)::(zd 8 []))))))),(zo 37 (some (.arr yI f true false false)::[]))⟩) fun st => lC R pol_Z77 11 N [1,1,1,1,0,1,0,0] F_Z77 n st (kB R pol_Z77 2 (kS R pol_Z77 15 N [1,1,1,1,1] F_Z77 (kTop E sg_Z77 F_Z77)))
noncomputable def Z77.l0 (R:Run) (N n:Nat) (a:vK) (b:Int) (e:vK) (f g:Int):Option Dv := R.w (some ⟨(.c (.d yK a)::(V.dead::(V.dead::(.c (.d yI b)::(zd 5 (.c (.d yK e)::(.c (.d yI f)::(.c (.d yI g)::(zd 24 []))))))))),(zo 38 [])⟩) fun st => lC R pol_Z77 3 N [1,1,0,1,0,0] F_Z77 n st (kB R pol_Z77 0 (kS R pol_Z77 9 N [1,1,1] F_Z77 (kTop E sg_Z77 F_Z77)))
theorem Z77.l1_succ (R:Run) (hw:R.ok) (N n:Nat) (a:vK) (b c:Int) (d:(List Int)):Z77.l1 R N (n + 1) a b c d = (bif (decide (c < b)) then ((idx? a c).bind fun y17 => ((chk (decide ((List.length d + List.length (y17,()).1) * 8 ≤ 70368744177664))).bind fun _ => (Z77.l1 R N n a b (w64 (c + (1:Int))) (d ++ (y17,()).1)))) else some ⟨o_Z77,(d,())⟩) := (hw _ _).trans (by kernel_rfl)
theorem Z77.l0_succ (R:Run) (hw:R.ok) (N n:Nat) (a:vK) (b:Int) (c:vK) (d e:Int):Z77.l0 R N (n + 1) a b c d e = (bif (decide (e < d)) then ((idx? c e).bind fun y6 => (bif (decide ((w64 (b + (List.length (y6,()).1:Int))) < (0:Int))) then none else (Z77.l0 R N n a (w64 (b + (List.length (y6,()).1:Int))) c d (w64 (e + (1:Int)))))) else ((callT R n_Z85 o_Z85 [⟨yL,([]:List Int)⟩,⟨yI,b⟩]).bind fun r12 => (Z77.l1 R N N a (List.length a:Int) (0:Int) r12.1))) := (hw _ _).trans (by kernel_rfl)
theorem Z77.ev (R:Run) (N:Nat) (a0:vK):evFn E R sg_Z77 pol_Z77 F_Z77 N [⟨yK,a0⟩] = (Z77.l0 R N N a0 (0:Int) a0 (List.length a0:Int) (0:Int)) := by kernel_rfl
noncomputable def Z24.l0 (R:Run) (N n:Nat) (a:(List Int)) (b e:Int) (f:vK):Option Dv := R.w (some ⟨(.c (.d yL a)::(V.dead::(V.dead::(.c (.arr 24)::(V.dead::(V.dead::(.c (.d yI b)::(.c (.d yI e)::(zd 19 []))))))))),(zo 24 (some (.arr yL f true false false)::(zo 4 [])))⟩) fun st => lC R pol_Z24 3 N [1,1,0,1,0,0] F_Z24 n st (kB R pol_Z24 0 (kS R pol_Z24 8 N [1,1,1] F_Z24 (kTop E sg_Z24 F_Z24)))
theorem Z24.l0_succ (R:Run) (hw:R.ok) (N n:Nat) (a:(List Int)) (b c:Int) (d:vK):Z24.l0 R N (n + 1) a b c d = (bif (decide (c < b)) then (bif (decide ((List.length a:Int) > (1:Int))) then ((chk (decide (0 ≤ c) && decide (c ≤ (List.length a:Int)))).bind fun _ => ((chk (decide (0 ≤ (w64 (c + (1:Int)))) && decide ((w64 (c + (1:Int))) ≤ (List.length a:Int)))).bind fun _ => ((callT R n_Z77 o_Z77 [⟨yK,[(List.take (Int.toNat c) a),(List.drop (Int.toNat (w64 (c + (1:Int)))) a)]⟩]).bind fun r5 => ((chk (decide ((List.length d + List.length [r5.1]) * 24 ≤ 70368744177664))).bind fun _ => (Z24.l0 R N n a b (w64 (c + (1:Int))) (d ++ [r5.1])))))) else (Z24.l0 R N n a b (w64 (c + (1:Int))) d)) else some ⟨o_Z24,(d,())⟩) := (hw _ _).trans (by kernel_rfl)
theorem Z24.ev (R:Run) (N:Nat) (a0:(List Int)):evFn E R sg_Z24 pol_Z24 F_Z24 N [⟨yL,a0⟩] = (Z24.l0 R N N a0 (List.length a0:Int) (0:Int) ([]:List (List Int))) := by kernel_rfl
noncomputable def Z73.l0 (R:Run) (N n:Nat) (a:vK) (b:(List Int)) (e f g:Int):Option Dv := R.w (some ⟨(.c (.d yK a)::(.c (.d yL b)::(.c (.d (.fn n_Z19 .nil) ())::(zd 5 (.c (.d yI e)::(.c (.d yI f)::(.c (.d yI g)::(zd 38 [])))))))),(zo 52 [])⟩) fun st => lC R pol_Z72 3 N [1,1,1,0,0,0] F_Z72 n st (kB R pol_Z72 0 (kS R pol_Z72 8 N [1,1,1,1] F_Z72 (kTop E sg_Z72 F_Z72)))
theorem Z73.l0_succ (R:Run) (hw:R.ok) (N n:Nat) (a:vK) (b:(List Int)) (c d e:Int):Z73.l0 R N (n + 1) a b c d e = (bif (decide (d < e)) then ((chk (decide (0 ≤ (1:Int)))).bind fun _ => ((idx? a (w64 ((Int.fdiv (IntKind.wrap .u64 ((w64 (d + e)))) (2 ^ (min (Int.toNat (1:Int)) (IntKind.bits .u64))))))).bind fun y6 => ((callT R n_Z19 o_Z19 [⟨yL,(y6,()).1⟩,⟨yL,b⟩]).bind fun r7 => (bif (decide (r7.1 < (0:Int))) then (Z73.l0 R N n a b c (w64 ((w64 ((Int.fdiv (IntKind.wrap .u64 ((w64 (d + e)))) (2 ^ (min (Int.toNat (1:Int)) (IntKind.bits .u64)))))) + (1:Int))) e) else (Z73.l0 R N n a b c d (w64 ((Int.fdiv (IntKind.wrap .u64 ((w64 (d + e)))) (2 ^ (min (Int.toNat (1:Int)) (IntKind.bits .u64))))))))))) else (bif (decide (d < c)) then ((idx? a d).bind fun y18 => ((callT R n_Z19 o_Z19 [⟨yL,(y18,()).1⟩,⟨yL,b⟩]).bind fun r19 => some ⟨o_Z72,(d,(r19.1 == (0:Int)),())⟩)) else some ⟨o_Z72,(d,false,())⟩)) := (hw _ _).trans (by kernel_rfl)
theorem Z73.ev (R:Run) (N:Nat) (a0:vK) (a1:(List Int)):evFn E R sg_Z72 pol_Z72 F_Z72 N [⟨yK,a0⟩,⟨yL,a1⟩,⟨(.fn n_Z19 .nil),()⟩] = (Z73.l0 R N N a0 a1 (List.length a0:Int) (0:Int) (List.length a0:Int)) := by kernel_rfl
theorem Z27.ev (R:Run) (N:Nat) (a0:vK) (a1:(List Int)):evFn E R sg_Z27 pol_Z27 F_Z27 N [⟨yK,a0⟩,⟨yL,a1⟩] = ((callT R n_Z72 o_Z72 [⟨yK,a0⟩,⟨yL,a1⟩,⟨(.fn n_Z19 .nil),()⟩]).bind fun r1 => (bif (!r1.2.1) then some ⟨o_Z27,((-1:Int),())⟩ else some ⟨o_Z27,(r1.1,())⟩)) := by kernel_rfl
theorem Z8.ev (R:Run) (N:Nat) (a0:(List Int)) (a1:(vK × Unit)) (a2:(Int × Unit)):evFn E R sg_Z8 pol_Z8 F_Z8 N [⟨yL,a0⟩,⟨(.ptr (.cons yK .nil)),a1⟩,⟨(.ptr (.cons yI .nil)),a2⟩] = ((chk (decide (0 ≤ a2.1) && decide (a2.1 ≤ (List.length a1.1:Int)))).bind fun _ => ((callT R n_Z27 o_Z27 [⟨yK,(List.take (Int.toNat a2.1) a1.1)⟩,⟨yL,a0⟩]).bind fun r1 => some ⟨o_Z8,((decide (r1.1 < (0:Int))),())⟩)) := by kernel_rfl
noncomputable def Z87.l0 (R:Run) (N n:Nat) (a:vK) (b:((vK × Unit) × (Int × Unit) × Unit)) (e f:Int):Option Dv := R.w (some ⟨(.c (.d yK a)::(.c (.d (.fn n_Z8 (.cons (.ptr (.cons yK .nil)) (.cons (.ptr (.cons yI .nil)) .nil))) b)::(zd 5 (.c (.d yI e)::(.c (.d yI f)::(zd 10 [])))))),(zo 21 [])⟩) fun st => lC R pol_Z86 2 N [1,0,1,0,0] F_Z86 n st (kB R pol_Z86 0 (kS R pol_Z86 7 N [1,1] F_Z86 (kTop E sg_Z86 F_Z86)))
theorem Z87.l0_succ (R:Run) (hw:R.ok) (N n:Nat) (a:vK) (b:((vK × Unit) × (Int × Unit) × Unit)) (c d:Int):Z87.l0 R N (n + 1) a b c d = (bif (decide (d < c)) then ((idx? a d).bind fun y5 => ((callT R n_Z8 o_Z8 [⟨yL,(y5,()).1⟩,⟨(.ptr (.cons yK .nil)),b.1⟩,⟨(.ptr (.cons yI .nil)),b.2.1⟩]).bind fun r6 => (bif r6.1 then some ⟨o_Z86,(d,())⟩ else (Z87.l0 R N n a b c (w64 (d + (1:Int))))))) else some ⟨o_Z86,((-1:Int),())⟩) := (hw _ _).trans (by kernel_rfl)
theorem Z87.ev (R:Run) (N:Nat) (a0:vK) (a1:((vK × Unit) × (Int × Unit) × Unit)):evFn E R sg_Z86 pol_Z86 F_Z86 N [⟨yK,a0⟩,⟨(.fn n_Z8 (.cons (.ptr (.cons yK .nil)) (.cons (.ptr (.cons yI .nil)) .nil))),a1⟩] = (Z87.l0 R N N a0 a1 (List.length a0:Int) (0:Int)) := by kernel_rfl
theorem Z79.ev (R:Run) (N:Nat) (a0:vK) (a1:((vK × Unit) × (Int × Unit) × Unit)):evFn E R sg_Z78 pol_Z78 F_Z78 N [⟨yK,a0⟩,⟨(.fn n_Z8 (.cons (.ptr (.cons yK .nil)) (.cons (.ptr (.cons yI .nil)) .nil))),a1⟩] = ((callT R n_Z86 o_Z86 [⟨yK,a0⟩,⟨(.fn n_Z8 (.cons (.ptr (.cons yK .nil)) (.cons (.ptr (.cons yI .nil)) .nil))),a1⟩]).bind fun r1 => some ⟨o_Z78,((decide (r1.1 ≥ (0:Int))),())⟩) := by kernel_rfl
noncomputable def Z7.j1 (R:Run) (N a:Nat) (b:(List Int)) (e:vK) (f g:Int) (h:Bool) (i:vK) (j:Int):Option Dv := R.w (some ⟨(V.dead::(.c (.box 1 0)::(V.dead::(.c (.box 3 0)::(.c (.d yL b)::(V.dead::(.c (.d yK e)::(.c (.d yI f)::(.c (.d yI g)::(zd 21 (.c (.d .bool h)::(zd 9 [])))))))))))),(none::(some (.box [.d yK i] true false)::(none::(some (.box [.d yI j] false false)::(zo 37 [])))))⟩) fun st => eC R pol_Z7 N [1,0,1,0,0,1,1,0,0,1,0,1] F_Z7 st (kS R pol_Z7 6 N [1,0,1,0,0,1,1,0,0,1,1] F_Z7 (kB R pol_Z7 1 (kS R pol_Z7 8 N [1,0,1,0,0,1,1,1] F_Z7 (kL R pol_Z7 2 N [1,0,1,0,0] F_Z7 a (kB R pol_Z7 0 (kS R pol_Z7 9 N [1,1] F_Z7 (kTop E sg_Z7 F_Z7)))))))
noncomputable def Z7.l0 (R:Run) (N n:Nat) (a:vK) (b e:Int) (f:vK):Option Dv := R.w (some ⟨(V.dead::(.c (.box 1 0)::(zd 4 (.c (.d yK a)::(.c (.d yI b)::(.c (.d yI e)::(zd 31 []))))))),(none::(some (.box [.d yK f] true false)::(zo 39 [])))⟩) fun st => lC R pol_Z7 2 N [1,0,1,0,0] F_Z7 n st (kB R pol_Z7 0 (kS R pol_Z7 9 N [1,1] F_Z7 (kTop E sg_Z7 F_Z7)))
theorem Z7.j1_eq (R:Run) (hw:R.ok) (N a:Nat) (b:(List Int)) (c:vK) (d e:Int) (f:Bool) (g:vK) (h:Int):Z7.j1 R N a b c d e f g h = (bif f then some ⟨o_Z7,(false,())⟩ else ((callT R n_Z24 o_Z24 [⟨yL,b⟩]).bind fun r14 => ((callT R n_Z78 o_Z78 [⟨yK,r14.1⟩,⟨(.fn n_Z8 (.cons (.ptr (.cons yK .nil)) (.cons (.ptr (.cons yI .nil)) .nil))),((g,()),(h,()),())⟩]).bind fun r15 => (bif r15.1 then some ⟨o_Z7,(false,())⟩ else (Z7.l0 R N a c d (w64 (e + (1:Int))) g))))) := (hw _ _).trans (by kernel_rfl)
theorem Z7.l0_succ (R:Run) (hw:R.ok) (N n:Nat) (a:vK) (b c:Int) (d:vK):Z7.l0 R N (n + 1) a b c d = (bif (decide (c < b)) then ((idx? a c).bind fun y5 => ((callT R n_Z12 o_Z12 [⟨yL,(y5,()).1⟩]).bind fun r6 => (bif (!r6.1) then (Z7.j1 R N n ((y5,()).1) a b c true d c) else (bif (decide (c > (0:Int))) then ((idx? d (w64 (c - (1:Int)))).bind fun y20 => ((callT R n_Z19 o_Z19 [⟨yL,(y20,()).1⟩,⟨yL,(y5,()).1⟩]).bind fun r21 => (Z7.j1 R N n ((y5,()).1) a b c (decide (r21.1 ≥ (0:Int))) d c))) else (Z7.j1 R N n ((y5,()).1) a b c false d c))))) else some ⟨o_Z7,((decide ((List.length d:Int) ≤ (48:Int))),())⟩) := (hw _ _).trans (by kernel_rfl)
theorem Z7.ev (R:Run) (N:Nat) (a0:vK):evFn E R sg_Z7 pol_Z7 F_Z7 N [⟨yK,a0⟩] = (Z7.l0 R N N a0 (List.length a0:Int) (0:Int) a0) := by kernel_rfl
noncomputable def Z10.l0 (R:Run) (N n:Nat) (a b:Int):Option Dv := R.w (some ⟨(.c (.d yI a)::(V.dead::(V.dead::(.c (.d yI b)::(zd 14 []))))),(zo 19 [])⟩) fun st => lC R pol_Z10 4 N [1,1,0,1,0,0] F_Z10 n st (kB R pol_Z10 0 (kS R pol_Z10 8 N [1,1,1] F_Z10 (kTop E sg_Z10 F_Z10)))
theorem Z10.l0_succ (R:Run) (hw:R.ok) (N n:Nat) (a b:Int):Z10.l0 R N (n + 1) a b = (bif (decide ((w64 (b * b)) ≤ a)) then ((chk (b != 0)).bind fun _ => (bif ((Int.tmod a b) == (0:Int)) then some ⟨o_Z10,(false,())⟩ else (Z10.l0 R N n a (w64 (b + (1:Int)))))) else some ⟨o_Z10,(true,())⟩) := (hw _ _).trans (by kernel_rfl)
theorem Z10.ev (R:Run) (N:Nat) (a0:Int):evFn E R sg_Z10 pol_Z10 F_Z10 N [⟨yI,a0⟩] = ((callT R n_Z41 o_Z41 [⟨yI,a0⟩,⟨yI,(2:Int)⟩,⟨yI,(251:Int)⟩]).bind fun r1 => (bif (!r1.1) then some ⟨o_Z10,(false,())⟩ else (Z10.l0 R N N a0 (2:Int)))) := by kernel_rfl
theorem Z38.ev (R:Run) (N:Nat) (a0:vK):evFn E R sg_Z38 pol_Z38 F_Z38 N [⟨yK,a0⟩] = some ⟨o_Z38,((List.length a0:Int),())⟩ := by kernel_rfl
noncomputable def Z23.l0 (R:Run) (N n:Nat) (a:vK) (b e:Int) (f:vK) (g:(List Int)):Option Dv := R.w (some ⟨(V.dead::(V.dead::(.c (.box 2 0)::(V.dead::(V.dead::(.c (.arr 24)::(zd 7 (.c (.d yK a)::(.c (.d yI b)::(.c (.d yI e)::(zd 11 []))))))))))),(none::(none::(some (.box [.d yK f] false false)::(zo 21 (some (.arr yI g true false false)::(zo 4 []))))))⟩) fun st => lC R pol_Z23 3 N [1,1,0,1,0,0] F_Z23 n st (kB R pol_Z23 0 (kS R pol_Z23 7 N [1,1,1] F_Z23 (kTop E sg_Z23 F_Z23)))
theorem Z23.l0_succ (R:Run) (hw:R.ok) (N n:Nat) (a:vK) (b c:Int) (d:vK) (e:(List Int)):Z23.l0 R N (n + 1) a b c d e = (bif (decide (c < b)) then ((idx? a c).bind fun y8 => ((callT R n_Z27 o_Z27 [⟨yK,d⟩,⟨yL,(y8,()).1⟩]).bind fun r9 => ((chk (decide ((List.length e + List.length [r9.1]) * 8 ≤ 70368744177664))).bind fun _ => (Z23.l0 R N n a b (w64 (c + (1:Int))) d (e ++ [r9.1]))))) else some ⟨o_Z23,(e,())⟩) := (hw _ _).trans (by kernel_rfl)
theorem Z23.ev (R:Run) (N:Nat) (a0:vK) (a1:Int):evFn E R sg_Z23 pol_Z23 F_Z23 N [⟨yK,a0⟩,⟨yI,a1⟩] = ((idx? a0 a1).bind fun y1 => ((callT R n_Z24 o_Z24 [⟨yL,(y1,()).1⟩]).bind fun r2 => (Z23.l0 R N N r2.1 (List.length r2.1:Int) (0:Int) a0 ([]:List Int)))) := by kernel_rfl
noncomputable def Z18.l1 (R:Run) (N a n:Nat) (b e f:Int) (g:(List Int)) (h i:Int) (j:vK) (k:(List (Int × Int × Int × Unit))):Option Dv := R.w (some ⟨(V.dead::(.c (.box 1 0)::(V.dead::(.c (.arr 28)::(.c (.d yI b)::(zd 4 (.c (.d yI e)::(.c (.d yI f)::(zd 4 (.c (.d yL g)::(.c (.d yI h)::(.c (.d yI i)::(zd 14 []))))))))))))),(none::(some (.box [.d yK j] false false)::(zo 26 (some (.arr (.st (.cons yI (.cons yI (.cons yI .nil)))) k true false false)::(zo 4 [])))))⟩) fun st => lC R pol_Z18 6 N [1,1,0,1,0,0,1,1,0,0,1,1,0,0] F_Z18 n st (kB R pol_Z18 2 (kB R pol_Z18 1 (kS R pol_Z18 10 N [1,1,0,1,0,0,1,1,1] F_Z18 (kL R pol_Z18 3 N [1,1,0,1,0,0] F_Z18 a (kB R pol_Z18 0 (kS R pol_Z18 11 N [1,1,1] F_Z18 (kTop E sg_Z18 F_Z18)))))))
noncomputable def Z18.l0 (R:Run) (N n:Nat) (a b:Int) (e:vK) (f:(List (Int × Int × Int × Unit))):Option Dv := R.w (some ⟨(V.dead::(.c (.box 1 0)::(V.dead::(.c (.arr 28)::(zd 5 (.c (.d yI a)::(.c (.d yI b)::(zd 21 [])))))))),(none::(some (.box [.d yK e] false false)::(zo 26 (some (.arr (.st (.cons yI (.cons yI (.cons yI .nil)))) f true false false)::(zo 4 [])))))⟩) fun st => lC R pol_Z18 3 N [1,1,0,1,0,0] F_Z18 n st (kB R pol_Z18 0 (kS R pol_Z18 11 N [1,1,1] F_Z18 (kTop E sg_Z18 F_Z18)))
theorem Z18.l1_succ (R:Run) (hw:R.ok) (N a n:Nat) (b c d:Int) (e:(List Int)) (f g:Int) (h:vK) (i:(List (Int × Int × Int × Unit))):Z18.l1 R N a (n + 1) b c d e f g h i = (bif (decide (g < f)) then ((idx? e g).bind fun y15 => ((chk (decide ((List.length i + List.length [(b,g,(y15,()).1,())]) * 24 ≤ 70368744177664))).bind fun _ => (Z18.l1 R N a n b c d e f (w64 (g + (1:Int))) h (i ++ [(b,g,(y15,()).1,())])))) else (Z18.l0 R N a c (w64 (d + (1:Int))) h i)) := (hw _ _).trans (by kernel_rfl)
theorem Z18.l0_succ (R:Run) (hw:R.ok) (N n:Nat) (a b:Int) (c:vK) (d:(List (Int × Int × Int × Unit))):Z18.l0 R N (n + 1) a b c d = (bif (decide (b < a)) then ((callT R n_Z23 o_Z23 [⟨yK,c⟩,⟨yI,b⟩]).bind fun r6 => (Z18.l1 R N n N b a b r6.1 (List.length r6.1:Int) (0:Int) c d)) else some ⟨o_Z18,(d,())⟩) := (hw _ _).trans (by kernel_rfl)
theorem Z18.ev (R:Run) (N:Nat) (a0:vK):evFn E R sg_Z18 pol_Z18 F_Z18 N [⟨yK,a0⟩] = ((callT R n_Z38 o_Z38 [⟨yK,a0⟩]).bind fun r1 => (Z18.l0 R N N r1.1 (0:Int) a0 ([]:List (Int × Int × Int × Unit)))) := by kernel_rfl
theorem Z32.ev (R:Run) (N:Nat) (a0:Int):evFn E R sg_Z32 pol_Z32 F_Z32 N [⟨yI,a0⟩] = ((callT R n_Z41 o_Z41 [⟨yI,a0⟩,⟨yI,(0:Int)⟩,⟨yI,(32:Int)⟩]).bind fun r1 => some ⟨o_Z32,(r1.1,())⟩) := by kernel_rfl
theorem Z39.ev (R:Run) (N:Nat) (a0:(List Int)):evFn E R sg_Z39 pol_Z39 F_Z39 N [⟨yL,a0⟩] = some ⟨o_Z39,((List.length a0:Int),())⟩ := by kernel_rfl
theorem Z29.ev (R:Run) (N:Nat) (a0 a1:Int):evFn E R sg_Z29 pol_Z29 F_Z29 N [⟨yI,a0⟩,⟨yI,a1⟩] = ((callT R n_Z41 o_Z41 [⟨yI,a0⟩,⟨yI,(0:Int)⟩,⟨yI,(w64 (a1 - (1:Int)))⟩]).bind fun r1 => some ⟨o_Z29,(r1.1,())⟩) := by kernel_rfl
theorem Z15.ev (R:Run) (N:Nat) (a0:Int) (a1:(Int × Unit)):evFn E R sg_Z15 pol_Z15 F_Z15 N [⟨yI,a0⟩,⟨(.ptr (.cons yI .nil)),a1⟩] = ((callT R n_Z29 o_Z29 [⟨yI,a0⟩,⟨yI,a1.1⟩]).bind fun r1 => some ⟨o_Z15,((!r1.1),())⟩) := by kernel_rfl
end VeT
