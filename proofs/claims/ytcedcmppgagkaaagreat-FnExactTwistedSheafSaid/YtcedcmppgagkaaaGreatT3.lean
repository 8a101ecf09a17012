import Derived.Test.YtcedcmppgagkaaaGreatV2
import Derived.Test.YtcedcmppgagkaaaGreatProg
import Derived.KernelRfl
set_option linter.unusedVariables false
set_option linter.unusedSimpArgs false
open Go Go.Proofs Ve
set_option linter.unusedVariables false
set_option maxRecDepth 100000
namespace VeT
abbrev yM : Ty := .cons (.int .i64) (.cons (.int .i64) (.cons (.int .i64) (.cons (.sl (.int .i64)) .nil)))
abbrev yI : Ty := .int .i64
abbrev yL : Ty := .sl yI
abbrev yK : Ty := .sl yL
abbrev yN : Ty := .sl (.st yM)
abbrev yS : Ty := .cons yK (.cons yI (.cons yL (.cons yN .nil)))
abbrev vM := Int × Int × Int × List Int × Unit
abbrev vK := List (List Int)
abbrev vN := List vM
abbrev vS := vK × Int × List Int × vN × Unit
noncomputable def bodyOf (f:Func):Code := f.body.getD .skip
def zd:Nat → List Ve.V → List Ve.V
  | 0,t => t
  | n + 1,t => V.dead::zd n t
def zo:Nat → List (Option Ve.Obj) → List (Option Ve.Obj)
  | 0,t => t
  | n + 1,t => none::zo n t
@[reducible] def n_Z37:Nat := 4
@[reducible] def n_Z54:Nat := 7
@[reducible] def n_Z57:Nat := 9
@[reducible] def n_Z43:Nat := 11
@[reducible] def n_Z38:Nat := 12
@[reducible] def n_Z49:Nat := 13
@[reducible] def n_Z53:Nat := 14
@[reducible] def n_Z48:Nat := 15
@[reducible] def n_Z82:Nat := 16
@[reducible] def n_Z58:Nat := 17
@[reducible] def n_Z5:Nat := 18
@[reducible] def n_Z39:Nat := 19
@[reducible] def n_Z50:Nat := 20
@[reducible] def n_Z41:Nat := 27
@[reducible] def n_Z45:Nat := 31
@[reducible] def n_Z56:Nat := 32
@[reducible] def n_Z101:Nat := 33
@[reducible] def n_Z85:Nat := 34
@[reducible] def n_Z102:Nat := 35
@[reducible] def n_Z105:Nat := 36
@[reducible] def n_Z59:Nat := 37
@[reducible] def n_Z8:Nat := 38
@[reducible] def n_Z10:Nat := 39
@[reducible] def n_Z36:Nat := 40
@[reducible] def n_Z13:Nat := 41
@[reducible] def n_Z19:Nat := 42
@[reducible] def n_Z28:Nat := 43
@[reducible] def n_Z34:Nat := 45
@[reducible] def n_Z42:Nat := 46
@[reducible] def n_Z40:Nat := 47
@[reducible] def n_Z51:Nat := 48
@[reducible] def n_Z52:Nat := 49
@[reducible] def n_Z44:Nat := 50
@[reducible] def n_Z47:Nat := 51
@[reducible] def n_Z97:Nat := 52
@[reducible] def n_Z90:Nat := 53
@[reducible] def n_Z84:Nat := 54
@[reducible] def n_Z107:Nat := 55
@[reducible] def n_Z30:Nat := 56
@[reducible] def n_Z68:Nat := 57
@[reducible] def n_Z6:Nat := 58
@[reducible] def n_Z7:Nat := 59
@[reducible] def n_Z25:Nat := 60
@[reducible] def n_Z80:Nat := 61
@[reducible] def n_Z55:Nat := 62
@[reducible] def n_Z86:Nat := 69
@[reducible] def n_Z104:Nat := 70
@[reducible] def n_Z32:Nat := 75
@[reducible] def n_Z20:Nat := 76
@[reducible] def n_Z98:Nat := 89
@[reducible] def n_Z83:Nat := 90
@[reducible] def n_Z103:Nat := 91
@[reducible] def n_Z91:Nat := 92
@[reducible] def n_Z106:Nat := 93
@[reducible] def n_Z11:Nat := 94
@[reducible] def n_Z16:Nat := 95
@[reducible] def n_Z66:Nat := 96
@[reducible] def n_Z21:Nat := 97
@[reducible] def n_Z9:Nat := 98
@[reducible] def n_Z14:Nat := 99
@[reducible] def n_Z33:Nat := 100
@[reducible] def n_Z24:Nat := 101
@[reducible] def n_Z62:Nat := 102
@[reducible] def n_Z15:Nat := 103
@[reducible] def n_Z18:Nat := 104
@[reducible] def n_Z22:Nat := 105
@[reducible] def n_Z35:Nat := 106
@[reducible] def n_Z46:Nat := 107
@[reducible] def n_Z96:Nat := 108
@[reducible] def n_Z76:Nat := 109
@[reducible] def n_Z60:Nat := 110
@[reducible] def n_Z95:Nat := 112
@[reducible] def n_Z31:Nat := 116
@[reducible] def n_Z99:Nat := 123
@[reducible] def n_Z93:Nat := 124
@[reducible] def n_Z94:Nat := 125
@[reducible] def n_Z89:Nat := 126
@[reducible] def n_Z100:Nat := 127
@[reducible] def n_Z92:Nat := 128
@[reducible] def n_Z26:Nat := 129
@[reducible] def n_Z12:Nat := 130
@[reducible] def n_Z27:Nat := 131
@[reducible] def n_Z2:Nat := 132
@[reducible] def n_Z0:Nat := 133
@[reducible] def n_Z64:Nat := 134
@[reducible] def n_Z74:Nat := 135
@[reducible] def n_Z65:Nat := 136
@[reducible] def n_Z17:Nat := 137
@[reducible] def n_Z81:Nat := 138
@[reducible] def n_Z63:Nat := 139
@[reducible] def n_Z72:Nat := 140
@[reducible] def n_Z88:Nat := 141
@[reducible] def n_Z87:Nat := 160
@[reducible] def n_Z3:Nat := 161
@[reducible] def n_Z1:Nat := 162
@[reducible] def n_Z73:Nat := 163
@[reducible] def n_Z4:Nat := 186
@[reducible] noncomputable def F_Z37:Func := Tryz.f4
@[reducible] noncomputable def F_Z54:Func := Tryz.f7
@[reducible] noncomputable def F_Z57:Func := Tryz.f9
@[reducible] noncomputable def F_Z43:Func := Tryz.f11
@[reducible] noncomputable def F_Z38:Func := Tryz.f12
@[reducible] noncomputable def F_Z49:Func := Tryz.f13
@[reducible] noncomputable def F_Z53:Func := Tryz.f14
@[reducible] noncomputable def F_Z48:Func := Tryz.f15
@[reducible] noncomputable def F_Z82:Func := Tryz.f16
@[reducible] noncomputable def F_Z58:Func := Tryz.f17
@[reducible] noncomputable def F_Z5:Func := Tryz.f18
@[reducible] noncomputable def F_Z39:Func := Tryz.f19
@[reducible] noncomputable def F_Z50:Func := Tryz.f20
@[reducible] noncomputable def F_Z41:Func := Tryz.f27
@[reducible] noncomputable def F_Z45:Func := Tryz.f31
@[reducible] noncomputable def F_Z56:Func := Tryz.f32
@[reducible] noncomputable def F_Z101:Func := Tryz.f33
@[reducible] noncomputable def F_Z85:Func := Tryz.f34
@[reducible] noncomputable def F_Z102:Func := Tryz.f35
@[reducible] noncomputable def F_Z105:Func := Tryz.f36
@[reducible] noncomputable def F_Z59:Func := Tryz.f37
@[reducible] noncomputable def F_Z8:Func := Tryz.f38
@[reducible] noncomputable def F_Z10:Func := Tryz.f39
@[reducible] noncomputable def F_Z36:Func := Tryz.f40
@[reducible] noncomputable def F_Z13:Func := Tryz.f41
@[reducible] noncomputable def F_Z19:Func := Tryz.f42
@[reducible] noncomputable def F_Z28:Func := Tryz.f43
@[reducible] noncomputable def F_Z34:Func := Tryz.f45
@[reducible] noncomputable def F_Z42:Func := Tryz.f46
@[reducible] noncomputable def F_Z40:Func := Tryz.f47
@[reducible] noncomputable def F_Z51:Func := Tryz.f48
@[reducible] noncomputable def F_Z52:Func := Tryz.f49
@[reducible] noncomputable def F_Z44:Func := Tryz.f50
@[reducible] noncomputable def F_Z47:Func := Tryz.f51
@[reducible] noncomputable def F_Z97:Func := Tryz.f52
@[reducible] noncomputable def F_Z90:Func := Tryz.f53
@[reducible] noncomputable def F_Z84:Func := Tryz.f54
@[reducible] noncomputable def F_Z107:Func := Tryz.f55
@[reducible] noncomputable def F_Z30:Func := Tryz.f56
@[reducible] noncomputable def F_Z68:Func := Tryz.f57
@[reducible] noncomputable def F_Z6:Func := Tryz.f58
@[reducible] noncomputable def F_Z7:Func := Tryz.f59
@[reducible] noncomputable def F_Z25:Func := Tryz.f60
@[reducible] noncomputable def F_Z80:Func := Tryz.f61
@[reducible] noncomputable def F_Z55:Func := Tryz.f62
@[reducible] noncomputable def F_Z86:Func := Tryz.f69
@[reducible] noncomputable def F_Z104:Func := Tryz.f70
@[reducible] noncomputable def F_Z32:Func := Tryz.f75
@[reducible] noncomputable def F_Z20:Func := Tryz.f76
@[reducible] noncomputable def F_Z98:Func := Tryz.f89
@[reducible] noncomputable def F_Z83:Func := Tryz.f90
@[reducible] noncomputable def F_Z103:Func := Tryz.f91
@[reducible] noncomputable def F_Z91:Func := Tryz.f92
@[reducible] noncomputable def F_Z106:Func := Tryz.f93
@[reducible] noncomputable def F_Z11:Func := Tryz.f94
@[reducible] noncomputable def F_Z16:Func := Tryz.f95
@[reducible] noncomputable def F_Z66:Func := Tryz.f96
@[reducible] noncomputable def F_Z21:Func := Tryz.f97
@[reducible] noncomputable def F_Z9:Func := Tryz.f98
@[reducible] noncomputable def F_Z14:Func := Tryz.f99
@[reducible] noncomputable def F_Z33:Func := Tryz.f100
@[reducible] noncomputable def F_Z24:Func := Tryz.f101
@[reducible] noncomputable def F_Z62:Func := Tryz.f102
@[reducible] noncomputable def F_Z15:Func := Tryz.f103
@[reducible] noncomputable def F_Z18:Func := Tryz.f104
@[reducible] noncomputable def F_Z22:Func := Tryz.f105
@[reducible] noncomputable def F_Z35:Func := Tryz.f106
@[reducible] noncomputable def F_Z46:Func := Tryz.f107
@[reducible] noncomputable def F_Z96:Func := Tryz.f108
@[reducible] noncomputable def F_Z76:Func := Tryz.f109
@[reducible] noncomputable def F_Z60:Func := Tryz.f110
@[reducible] noncomputable def F_Z95:Func := Tryz.f112
@[reducible] noncomputable def F_Z31:Func := Tryz.f116
@[reducible] noncomputable def F_Z99:Func := Tryz.f123
@[reducible] noncomputable def F_Z93:Func := Tryz.f124
@[reducible] noncomputable def F_Z94:Func := Tryz.f125
@[reducible] noncomputable def F_Z89:Func := Tryz.f126
@[reducible] noncomputable def F_Z100:Func := Tryz.f127
@[reducible] noncomputable def F_Z92:Func := Tryz.f128
@[reducible] noncomputable def F_Z26:Func := Tryz.f129
@[reducible] noncomputable def F_Z12:Func := Tryz.f130
@[reducible] noncomputable def F_Z27:Func := Tryz.f131
@[reducible] noncomputable def F_Z2:Func := Tryz.f132
@[reducible] noncomputable def F_Z0:Func := Tryz.f133
@[reducible] noncomputable def F_Z64:Func := Tryz.f134
@[reducible] noncomputable def F_Z74:Func := Tryz.f135
@[reducible] noncomputable def F_Z65:Func := Tryz.f136
@[reducible] noncomputable def F_Z17:Func := Tryz.f137
@[reducible] noncomputable def F_Z81:Func := Tryz.f138
@[reducible] noncomputable def F_Z63:Func := Tryz.f139
@[reducible] noncomputable def F_Z72:Func := Tryz.f140
@[reducible] noncomputable def F_Z88:Func := Tryz.f141
@[reducible] noncomputable def F_Z87:Func := Tryz.f160
@[reducible] noncomputable def F_Z3:Func := Tryz.f161
@[reducible] noncomputable def F_Z1:Func := Tryz.f162
@[reducible] noncomputable def F_Z73:Func := Tryz.f163
@[reducible] noncomputable def F_Z4:Func := Tryz.f186
@[reducible] def o_Z37:Ty := (.cons .bool .nil)
noncomputable def sg_Z37:Sig := ⟨[(true,1),(false,1),(false,1)],[],o_Z37,[(false,1)],[],[]⟩
@[reducible] def o_Z54:Ty := (.cons yI .nil)
noncomputable def sg_Z54:Sig := ⟨[(true,1),(false,1)],[],o_Z54,[(false,1)],[],[]⟩
@[reducible] def o_Z57:Ty := (.cons yK .nil)
noncomputable def sg_Z57:Sig := ⟨[(true,1)],[],o_Z57,[(true,1)],[.deep],[]⟩
@[reducible] def o_Z43:Ty := (.cons .bool .nil)
noncomputable def sg_Z43:Sig := ⟨[(true,4),(true,4)],[],o_Z43,[(false,1)],[],[]⟩
@[reducible] def o_Z38:Ty := (.cons .bool .nil)
noncomputable def sg_Z38:Sig := ⟨[(true,1),(true,1)],[],o_Z38,[(false,1)],[],[]⟩
@[reducible] def o_Z49:Ty := (.cons yI (.cons yK .nil))
noncomputable def sg_Z49:Sig := ⟨[(true,1),(false,1)],[.io true,.imm],o_Z49,[(false,1)],[],[]⟩
@[reducible] def o_Z53:Ty := (.cons yI (.cons yK (.cons yL (.cons yN .nil))))
noncomputable def sg_Z53:Sig := ⟨[(true,4),(false,1)],[.io true,.imm,.io true,.io true,.imm],o_Z53,[(false,1)],[],[]⟩
@[reducible] def o_Z48:Ty := (.cons yI .nil)
noncomputable def sg_Z48:Sig := ⟨[(true,4),(false,1)],[],o_Z48,[(false,1)],[],[]⟩
@[reducible] def o_Z82:Ty := (.cons yK (.cons yI (.cons yL (.cons yN (.cons yI .nil)))))
noncomputable def sg_Z82:Sig := ⟨[(true,1),(false,1),(false,1)],[],o_Z82,[(true,4),(false,1)],[.deep,.imm,.deep,.deep,.imm],[]⟩
@[reducible] def o_Z58:Ty := (.cons yL .nil)
noncomputable def sg_Z58:Sig := ⟨[(false,1)],[],o_Z58,[(false,1)],[.deep],[]⟩
@[reducible] def o_Z5:Ty := (.cons yK (.cons yI (.cons yL (.cons yN (.cons yI .nil)))))
noncomputable def sg_Z5:Sig := ⟨[(true,1),(false,1),(false,1)],[],o_Z5,[(true,4),(false,1)],[.deep,.imm,.deep,.deep,.imm],[]⟩
@[reducible] def o_Z39:Ty := (.cons .bool .nil)
noncomputable def sg_Z39:Sig := ⟨[(false,1),(false,1)],[],o_Z39,[(false,1)],[],[]⟩
@[reducible] def o_Z50:Ty := (.cons yI (.cons yL .nil))
noncomputable def sg_Z50:Sig := ⟨[(false,1),(false,1)],[.io true,.imm],o_Z50,[(false,1)],[],[]⟩
@[reducible] def o_Z41:Ty := (.cons .bool .nil)
noncomputable def sg_Z41:Sig := ⟨[(true,4),(true,4)],[],o_Z41,[(false,1)],[],[]⟩
@[reducible] def o_Z45:Ty := (.cons yI .nil)
noncomputable def sg_Z45:Sig := ⟨[(false,1),(false,1)],[],o_Z45,[(false,1)],[],[]⟩
@[reducible] def o_Z56:Ty := (.cons yI .nil)
noncomputable def sg_Z56:Sig := ⟨[(false,1),(false,1)],[],o_Z56,[(false,1)],[],[]⟩
@[reducible] def o_Z101:Ty := (.cons .bool .nil)
noncomputable def sg_Z101:Sig := ⟨[(false,1),(false,1)],[],o_Z101,[(false,1)],[],[(.ptr (.cons yK .nil))]⟩
@[reducible] def o_Z85:Ty := (.cons .bool .nil)
noncomputable def sg_Z85:Sig := ⟨[(false,1),(false,1),(false,1)],[],o_Z85,[(false,1)],[],[]⟩
@[reducible] def o_Z102:Ty := yS
noncomputable def sg_Z102:Sig := ⟨[(false,1),(false,1),(false,1)],[],o_Z102,[(true,4)],[.deep,.imm,.deep,.deep],[(.ptr (.cons yK .nil))]⟩
@[reducible] def o_Z105:Ty := (.cons .bool .nil)
noncomputable def sg_Z105:Sig := ⟨[(false,1),(false,1)],[],o_Z105,[(false,1)],[],[(.ptr (.cons yK .nil))]⟩
@[reducible] def o_Z59:Ty := (.cons yK .nil)
noncomputable def sg_Z59:Sig := ⟨[(false,1)],[],o_Z59,[(false,1)],[.deep],[]⟩
@[reducible] def o_Z8:Ty := (.cons .bool .nil)
noncomputable def sg_Z8:Sig := ⟨[(true,1)],[],o_Z8,[(false,1)],[],[]⟩
@[reducible] def o_Z10:Ty := (.cons .bool .nil)
noncomputable def sg_Z10:Sig := ⟨[(false,1)],[],o_Z10,[(false,1)],[],[]⟩
@[reducible] def o_Z36:Ty := (.cons .bool .nil)
noncomputable def sg_Z36:Sig := ⟨[(false,1),(false,1),(false,1)],[],o_Z36,[(false,1)],[],[]⟩
@[reducible] def o_Z13:Ty := (.cons .bool .nil)
noncomputable def sg_Z13:Sig := ⟨[(true,1),(false,1)],[],o_Z13,[(false,1)],[],[]⟩
@[reducible] def o_Z19:Ty := (.cons yL .nil)
noncomputable def sg_Z19:Sig := ⟨[(true,1),(false,1)],[],o_Z19,[(false,1)],[.deep],[]⟩
@[reducible] def o_Z28:Ty := yS
noncomputable def sg_Z28:Sig := ⟨[(true,1),(false,1),(false,1),(false,1)],[],o_Z28,[(true,4)],[.deep,.imm,.deep,.deep],[]⟩
@[reducible] def o_Z34:Ty := yM
noncomputable def sg_Z34:Sig := ⟨[(false,1),(false,1)],[],o_Z34,[(true,4)],[.imm,.imm,.imm,.deep],[]⟩
@[reducible] def o_Z42:Ty := (.cons .bool .nil)
noncomputable def sg_Z42:Sig := ⟨[(false,1),(false,1)],[],o_Z42,[(false,1)],[],[]⟩
@[reducible] def o_Z40:Ty := (.cons .bool .nil)
noncomputable def sg_Z40:Sig := ⟨[(false,1),(false,1)],[],o_Z40,[(false,1)],[],[]⟩
@[reducible] def o_Z51:Ty := (.cons yI (.cons yK .nil))
noncomputable def sg_Z51:Sig := ⟨[(false,1),(false,1)],[.io true,.imm],o_Z51,[(false,1)],[],[]⟩
@[reducible] def o_Z52:Ty := (.cons yI (.cons yN .nil))
noncomputable def sg_Z52:Sig := ⟨[(false,1),(false,1)],[.io true,.imm],o_Z52,[(false,1)],[],[]⟩
@[reducible] def o_Z44:Ty := (.cons yI .nil)
noncomputable def sg_Z44:Sig := ⟨[(true,1),(false,1)],[],o_Z44,[(false,1)],[],[]⟩
@[reducible] def o_Z47:Ty := (.cons yI .nil)
noncomputable def sg_Z47:Sig := ⟨[(false,1),(false,1)],[],o_Z47,[(false,1)],[],[]⟩
@[reducible] def o_Z97:Ty := (.cons yL .nil)
noncomputable def sg_Z97:Sig := ⟨[(false,1),(false,1)],[],o_Z97,[(false,1)],[.deep],[(.ptr (.cons yK .nil))]⟩
@[reducible] def o_Z90:Ty := (.cons .bool .nil)
noncomputable def sg_Z90:Sig := ⟨[(false,1),(false,1),(false,1)],[],o_Z90,[(false,1)],[],[]⟩
@[reducible] def o_Z84:Ty := (.cons .bool .nil)
noncomputable def sg_Z84:Sig := ⟨[(false,1),(false,1)],[],o_Z84,[(false,1)],[],[]⟩
@[reducible] def o_Z107:Ty := yS
noncomputable def sg_Z107:Sig := ⟨[(false,1),(false,1),(false,1)],[],o_Z107,[(true,4)],[.deep,.imm,.deep,.deep],[(.ptr (.cons yK .nil))]⟩
@[reducible] def o_Z30:Ty := (.cons yL .nil)
noncomputable def sg_Z30:Sig := ⟨[(true,1),(false,1)],[],o_Z30,[(false,1)],[.deep],[]⟩
@[reducible] def o_Z68:Ty := (.cons .bool .nil)
noncomputable def sg_Z68:Sig := ⟨[(false,1),(false,1)],[],o_Z68,[(false,1)],[],[]⟩
@[reducible] def o_Z6:Ty := (.cons .bool .nil)
noncomputable def sg_Z6:Sig := ⟨[(false,1),(false,1)],[],o_Z6,[(false,1)],[],[.nil,(.ptr (.cons yI .nil))]⟩
@[reducible] def o_Z7:Ty := yM
noncomputable def sg_Z7:Sig := ⟨[(true,3),(false,1),(false,1),(false,1),(false,1)],[],o_Z7,[(true,4)],[.imm,.imm,.imm,.deep],[.nil,.nil,.nil,(.ptr (.cons yI .nil)),(.ptr (.cons yK .nil)),(.ptr (.cons yL .nil)),(.ptr (.cons yL .nil))]⟩
@[reducible] def o_Z25:Ty := (.cons yI .nil)
noncomputable def sg_Z25:Sig := ⟨[(true,1),(false,1)],[],o_Z25,[(false,1)],[],[]⟩
@[reducible] def o_Z80:Ty := (.cons yI .nil)
noncomputable def sg_Z80:Sig := ⟨[(false,1),(false,1)],[],o_Z80,[(false,1)],[],[]⟩
@[reducible] def o_Z55:Ty := (.cons yI .nil)
noncomputable def sg_Z55:Sig := ⟨[(false,1),(false,1)],[],o_Z55,[(false,1)],[],[]⟩
@[reducible] def o_Z86:Ty := (.cons yL .nil)
noncomputable def sg_Z86:Sig := ⟨[(false,1)],[],o_Z86,[(false,1)],[.deep],[]⟩
@[reducible] def o_Z104:Ty := (.cons yI .nil)
noncomputable def sg_Z104:Sig := ⟨[(false,1),(false,1),(false,1)],[],o_Z104,[(false,1)],[],[(.ptr (.cons yK .nil))]⟩
@[reducible] def o_Z32:Ty := (.cons yI .nil)
noncomputable def sg_Z32:Sig := ⟨[(false,1)],[],o_Z32,[(false,1)],[],[]⟩
@[reducible] def o_Z20:Ty := (.cons yL .nil)
noncomputable def sg_Z20:Sig := ⟨[(true,1),(false,1)],[],o_Z20,[(false,1)],[.deep],[]⟩
@[reducible] def o_Z98:Ty := (.cons .bool .nil)
noncomputable def sg_Z98:Sig := ⟨[(false,1)],[],o_Z98,[(false,1)],[],[(.ptr (.cons yK .nil))]⟩
@[reducible] def o_Z83:Ty := (.cons .bool .nil)
noncomputable def sg_Z83:Sig := ⟨[(false,1)],[],o_Z83,[(false,1)],[],[]⟩
@[reducible] def o_Z103:Ty := yS
noncomputable def sg_Z103:Sig := ⟨[(false,1),(false,1),(false,1)],[],o_Z103,[(true,4)],[.deep,.imm,.deep,.deep],[(.ptr (.cons yK .nil))]⟩
@[reducible] def o_Z91:Ty := yM
noncomputable def sg_Z91:Sig := ⟨[(false,1),(false,1)],[],o_Z91,[(true,4)],[.imm,.imm,.imm,.deep],[]⟩
@[reducible] def o_Z106:Ty := (.cons yI .nil)
noncomputable def sg_Z106:Sig := ⟨[(false,1),(false,1),(false,1)],[],o_Z106,[(false,1)],[],[(.ptr (.cons yK .nil))]⟩
@[reducible] def o_Z11:Ty := (.cons .bool .nil)
noncomputable def sg_Z11:Sig := ⟨[(false,1)],[],o_Z11,[(false,1)],[],[]⟩
@[reducible] def o_Z16:Ty := (.cons yI .nil)
noncomputable def sg_Z16:Sig := ⟨[(false,1),(false,1)],[],o_Z16,[(false,1)],[],[]⟩
@[reducible] def o_Z66:Ty := (.cons .bool .nil)
noncomputable def sg_Z66:Sig := ⟨[(false,1),(false,1)],[],o_Z66,[(false,1)],[],[]⟩
@[reducible] def o_Z21:Ty := (.cons yK .nil)
noncomputable def sg_Z21:Sig := ⟨[(false,1)],[],o_Z21,[(false,1)],[.deep],[]⟩
@[reducible] def o_Z9:Ty := (.cons .bool .nil)
noncomputable def sg_Z9:Sig := ⟨[(false,1),(false,1),(false,1)],[],o_Z9,[(false,1)],[],[.nil,(.ptr (.cons yK .nil)),(.ptr (.cons yI .nil))]⟩
@[reducible] def o_Z14:Ty := (.cons .bool .nil)
noncomputable def sg_Z14:Sig := ⟨[(false,1)],[],o_Z14,[(false,1)],[],[]⟩
@[reducible] def o_Z33:Ty := (.cons yI .nil)
noncomputable def sg_Z33:Sig := ⟨[(true,4),(false,1)],[],o_Z33,[(false,1)],[],[]⟩
@[reducible] def o_Z24:Ty := (.cons yK .nil)
noncomputable def sg_Z24:Sig := ⟨[(false,1)],[],o_Z24,[(true,1)],[.deep],[]⟩
@[reducible] def o_Z62:Ty := (.cons yL .nil)
noncomputable def sg_Z62:Sig := ⟨[(false,1)],[],o_Z62,[(false,1)],[.deep],[]⟩
@[reducible] def o_Z15:Ty := (.cons (.sl (.st (.cons yI (.cons yI (.cons yI .nil))))) .nil)
noncomputable def sg_Z15:Sig := ⟨[(true,1)],[],o_Z15,[(false,1)],[.deep],[]⟩
@[reducible] def o_Z18:Ty := yM
noncomputable def sg_Z18:Sig := ⟨[(true,4)],[],o_Z18,[(true,4)],[.imm,.imm,.imm,.deep],[]⟩
@[reducible] def o_Z22:Ty := yM
noncomputable def sg_Z22:Sig := ⟨[(false,1),(false,1),(false,1),(false,1)],[],o_Z22,[(true,4)],[.imm,.imm,.imm,.deep],[]⟩
@[reducible] def o_Z35:Ty := (.cons yI .nil)
noncomputable def sg_Z35:Sig := ⟨[(false,1),(false,1)],[],o_Z35,[(false,1)],[],[]⟩
@[reducible] def o_Z46:Ty := (.cons yI .nil)
noncomputable def sg_Z46:Sig := ⟨[(false,1),(false,1)],[],o_Z46,[(false,1)],[],[]⟩
@[reducible] def o_Z96:Ty := (.cons yI .nil)
noncomputable def sg_Z96:Sig := ⟨[(false,1),(false,1)],[],o_Z96,[(false,1)],[],[(.ptr (.cons yK .nil))]⟩
@[reducible] def o_Z76:Ty := (.cons yI .nil)
noncomputable def sg_Z76:Sig := ⟨[(false,1),(false,1)],[],o_Z76,[(false,1)],[],[]⟩
@[reducible] def o_Z60:Ty := (.cons yI (.cons .bool .nil))
noncomputable def sg_Z60:Sig := ⟨[(false,1),(false,1),(false,1)],[],o_Z60,[(false,1),(false,1)],[],[]⟩
@[reducible] def o_Z95:Ty := (.cons yL .nil)
noncomputable def sg_Z95:Sig := ⟨[(false,1),(false,1)],[],o_Z95,[(false,1)],[.deep],[(.ptr (.cons yK .nil))]⟩
@[reducible] def o_Z31:Ty := (.cons yI .nil)
noncomputable def sg_Z31:Sig := ⟨[(false,1)],[],o_Z31,[(false,1)],[],[]⟩
@[reducible] def o_Z99:Ty := (.cons .bool .nil)
noncomputable def sg_Z99:Sig := ⟨[(false,1)],[],o_Z99,[(false,1)],[],[]⟩
@[reducible] def o_Z93:Ty := (.cons .bool .nil)
noncomputable def sg_Z93:Sig := ⟨[(false,1),(false,1)],[],o_Z93,[(false,1)],[],[]⟩
@[reducible] def o_Z94:Ty := (.cons yL .nil)
noncomputable def sg_Z94:Sig := ⟨[(false,1),(false,1)],[],o_Z94,[(false,1)],[.deep],[]⟩
@[reducible] def o_Z89:Ty := (.cons .bool .nil)
noncomputable def sg_Z89:Sig := ⟨[(false,1)],[],o_Z89,[(false,1)],[],[]⟩
@[reducible] def o_Z100:Ty := (.cons yK .nil)
noncomputable def sg_Z100:Sig := ⟨[(false,1),(false,1)],[],o_Z100,[(true,1)],[.deep],[(.ptr (.cons yK .nil))]⟩
@[reducible] def o_Z92:Ty := yM
noncomputable def sg_Z92:Sig := ⟨[(false,1),(false,1),(false,1)],[],o_Z92,[(true,4)],[.imm,.imm,.imm,.deep],[]⟩
@[reducible] def o_Z26:Ty := (.cons .bool .nil)
noncomputable def sg_Z26:Sig := ⟨[(false,1)],[],o_Z26,[(false,1)],[],[]⟩
@[reducible] def o_Z12:Ty := (.cons .bool .nil)
noncomputable def sg_Z12:Sig := ⟨[(false,1)],[],o_Z12,[(false,1)],[],[]⟩
@[reducible] def o_Z27:Ty := (.cons .bool .nil)
noncomputable def sg_Z27:Sig := ⟨[(false,1)],[],o_Z27,[(false,1)],[],[]⟩
@[reducible] def o_Z2:Ty := (.cons yI .nil)
noncomputable def sg_Z2:Sig := ⟨[(false,1)],[],o_Z2,[(false,1)],[],[]⟩
@[reducible] def o_Z0:Ty := (.cons yI .nil)
noncomputable def sg_Z0:Sig := ⟨[(false,1),(false,1)],[],o_Z0,[(false,1)],[],[]⟩
@[reducible] def o_Z64:Ty := (.cons yI .nil)
noncomputable def sg_Z64:Sig := ⟨[(false,1),(false,1)],[],o_Z64,[(false,1)],[],[]⟩
@[reducible] def o_Z74:Ty := (.cons yI .nil)
noncomputable def sg_Z74:Sig := ⟨[(false,1),(false,1)],[],o_Z74,[(false,1)],[],[]⟩
@[reducible] def o_Z65:Ty := (.cons yL .nil)
noncomputable def sg_Z65:Sig := ⟨[(false,1)],[],o_Z65,[(false,1)],[.deep],[]⟩
@[reducible] def o_Z17:Ty := (.cons yK .nil)
noncomputable def sg_Z17:Sig := ⟨[(false,1)],[],o_Z17,[(false,1)],[.deep],[]⟩
@[reducible] def o_Z81:Ty := (.cons yK .nil)
noncomputable def sg_Z81:Sig := ⟨[(false,1),(false,1)],[.io true,.imm],o_Z81,[],[],[]⟩
@[reducible] def o_Z63:Ty := (.cons yK .nil)
noncomputable def sg_Z63:Sig := ⟨[(false,1),(false,1)],[.take true,.imm],o_Z63,[(false,1)],[.deep],[]⟩
@[reducible] def o_Z72:Ty := (.cons .bool .nil)
noncomputable def sg_Z72:Sig := ⟨[(false,1),(false,1)],[],o_Z72,[(false,1)],[],[]⟩
@[reducible] def o_Z88:Ty := (.cons .bool .nil)
noncomputable def sg_Z88:Sig := ⟨[(false,1),(false,1)],[],o_Z88,[(false,1)],[],[]⟩
@[reducible] def o_Z87:Ty := (.cons .bool .nil)
noncomputable def sg_Z87:Sig := ⟨[(false,1),(false,1),(false,1)],[],o_Z87,[(false,1)],[],[]⟩
@[reducible] def o_Z3:Ty := (.cons .bool .nil)
noncomputable def sg_Z3:Sig := ⟨[(false,1)],[],o_Z3,[(false,1)],[],[]⟩
@[reducible] def o_Z1:Ty := (.cons yI .nil)
noncomputable def sg_Z1:Sig := ⟨[(false,1),(false,1)],[],o_Z1,[(false,1)],[],[]⟩
@[reducible] def o_Z73:Ty := (.cons yL .nil)
noncomputable def sg_Z73:Sig := ⟨[(false,1),(false,1)],[.take true,.imm],o_Z73,[(false,1)],[.deep],[]⟩
@[reducible] def o_Z4:Ty := (.cons .bool .nil)
noncomputable def sg_Z4:Sig := ⟨[(false,1)],[],o_Z4,[(false,1)],[],[]⟩
noncomputable def pol_Z37:Pol := ⟨130,[(37,[some 125]),(39,[some 126]),(44,[some 127,none,some 128,some 129])],[],[],[(1000055,⟨[1,2,3,8,9,10,11,12,13,55],[3,8,10,12,125,126,127,128,129],[],[],[],[],[]⟩),(1000084,⟨[1,2,3,8,9,12,84],[3,8,12,127,128,129],[],[],[],[],[]⟩),(1000113,⟨[12,15,113],[12,127,128,129],[],[],[],[],[]⟩)],[]⟩
noncomputable def pol_Z54:Pol := ⟨14,[],[],[],[],[]⟩
noncomputable def pol_Z57:Pol := ⟨11,[(6,[some 10])],[],[],[],[]⟩
noncomputable def pol_Z43:Pol := ⟨36,[],[],[],[],[]⟩
noncomputable def pol_Z38:Pol := ⟨13,[],[],[],[],[]⟩
noncomputable def pol_Z49:Pol := ⟨12,[],[],[],[],[]⟩
noncomputable def pol_Z53:Pol := ⟨23,[],[],[],[],[]⟩
noncomputable def pol_Z48:Pol := ⟨29,[],[],[],[],[]⟩
noncomputable def pol_Z82:Pol := ⟨41,[(28,[some 38,none,some 39,some 40])],[],[],[(1000024,⟨[1,2,3,6,24],[3,6],[],[],[],[],[]⟩)],[]⟩
noncomputable def pol_Z58:Pol := ⟨23,[],[(3,⟨[0,3,4],[7],[],[],[],[],[]⟩)],[],[],[]⟩
noncomputable def pol_Z5:Pol := ⟨50,[(43,[some 47,none,some 48,some 49])],[],[],[(1000017,⟨[3,4,5,6,17],[3,4,5,6],[],[],[],[],[]⟩),(1000030,⟨[3,4,5,6,8,30],[3,4,5,6,8],[],[],[4],[],[]⟩)],[]⟩
noncomputable def pol_Z39:Pol := ⟨28,[],[(4,⟨[0,1,5],[],[],[],[],[],[]⟩)],[],[],[]⟩
noncomputable def pol_Z50:Pol := ⟨21,[],[(2,⟨[0,1,5],[19],[],[],[],[],[]⟩)],[],[],[]⟩
noncomputable def pol_Z41:Pol := ⟨34,[],[],[],[],[]⟩
noncomputable def pol_Z45:Pol := ⟨23,[],[(2,⟨[0,1,5],[],[],[],[],[],[]⟩)],[],[],[]⟩
noncomputable def pol_Z56:Pol := ⟨29,[],[(5,⟨[0,1,5],[],[],[],[],[],[]⟩)],[],[],[]⟩
noncomputable def pol_Z101:Pol := ⟨13,[],[],[],[],[]⟩
noncomputable def pol_Z85:Pol := ⟨18,[],[],[],[],[]⟩
noncomputable def pol_Z102:Pol := ⟨51,[(28,[some 49,none,some 50,some 47]),(41,[none,none,none,some 48])],[(3,⟨[0,1,2,6,7,8],[6,11],[],[],[],[],[]⟩),(8,⟨[1,2,6,9,10],[6,9,47,49,50],[],[],[],[],[]⟩)],[],[],[]⟩
noncomputable def pol_Z105:Pol := ⟨25,[],[(4,⟨[0,1,5],[],[],[],[],[],[]⟩)],[],[],[]⟩
noncomputable def pol_Z59:Pol := ⟨25,[(20,[some 24])],[(3,⟨[0,3,4],[7],[],[],[],[],[]⟩)],[],[],[]⟩
noncomputable def pol_Z8:Pol := ⟨41,[],[(2,⟨[1,6,7,8],[1],[],[],[1],[],[]⟩)],[],[(1000030,⟨[1,3,4,6,7,8,30],[1,3],[],[],[],[],[]⟩)],[]⟩
noncomputable def pol_Z10:Pol := ⟨19,[],[(4,⟨[0,3],[],[],[],[],[],[]⟩)],[],[],[]⟩
noncomputable def pol_Z36:Pol := ⟨18,[],[],[],[],[]⟩
noncomputable def pol_Z13:Pol := ⟨28,[],[(4,⟨[1,2,16],[2],[],[],[],[],[]⟩)],[],[(1000015,⟨[1,2,15],[2],[],[],[],[],[]⟩)],[]⟩
noncomputable def pol_Z19:Pol := ⟨19,[],[(3,⟨[1,5,8,9],[14],[(5,14,yI,true)],[],[],[],[]⟩)],[],[],[]⟩
noncomputable def pol_Z28:Pol := ⟨44,[(14,[some 42]),(17,[some 43]),(31,[none,none,none,some 41])],[(3,⟨[3,8,9,20,21,22],[8,9,33,42,43],[],[(9,3,33,(.st yM),true)],[],[],[]⟩)],[],[],[]⟩
noncomputable def pol_Z34:Pol := ⟨12,[(8,[none,none,none,some 11])],[],[],[],[]⟩
noncomputable def pol_Z42:Pol := ⟨29,[],[(4,⟨[0,1,5],[],[],[],[],[],[]⟩)],[],[],[]⟩
noncomputable def pol_Z40:Pol := ⟨29,[],[(4,⟨[0,1,5],[],[],[],[],[],[]⟩)],[],[],[]⟩
noncomputable def pol_Z44:Pol := ⟨14,[],[],[],[],[]⟩
noncomputable def pol_Z47:Pol := ⟨51,[],[(2,⟨[0,1,5],[],[],[],[],[],[]⟩)],[],[],[]⟩
noncomputable def pol_Z97:Pol := ⟨35,[],[(3,⟨[0,1,5,6],[7],[],[],[],[],[]⟩)],[],[],[]⟩
noncomputable def pol_Z90:Pol := ⟨29,[],[(2,⟨[0,1,2,7],[],[],[],[],[],[]⟩)],[],[],[]⟩
noncomputable def pol_Z84:Pol := ⟨20,[],[(2,⟨[0,1,5],[],[],[],[],[],[]⟩)],[],[],[]⟩
noncomputable def pol_Z107:Pol := ⟨65,[(14,[some 63,none,some 64,some 61]),(51,[some 62])],[(4,⟨[0,2,6,7,8,9],[6,7,61,63,64],[],[],[],[],[]⟩)],[],[],[]⟩
noncomputable def pol_Z30:Pol := ⟨29,[],[(3,⟨[1,5,9,10,11],[24],[(5,24,yI,true)],[],[],[],[]⟩)],[],[],[]⟩
noncomputable def pol_Z68:Pol := ⟨11,[],[],[],[],[]⟩
noncomputable def pol_Z6:Pol := ⟨11,[],[],[],[],[]⟩
noncomputable def pol_Z7:Pol := ⟨39,[(12,[none,none,none,some 38])],[],[],[],[]⟩
noncomputable def pol_Z25:Pol := ⟨19,[],[],[],[],[]⟩
noncomputable def pol_Z80:Pol := ⟨21,[],[(2,⟨[0,1,7,8],[],[],[],[],[],[]⟩)],[],[],[]⟩
noncomputable def pol_Z55:Pol := ⟨14,[],[],[],[],[]⟩
noncomputable def pol_Z86:Pol := ⟨7,[],[],[],[],[]⟩
noncomputable def pol_Z104:Pol := ⟨39,[],[(3,⟨[0,1,2,7,8],[],[],[],[],[],[]⟩)],[],[],[]⟩
noncomputable def pol_Z32:Pol := ⟨6,[],[],[],[],[]⟩
noncomputable def pol_Z20:Pol := ⟨29,[],[(3,⟨[2,5,13,14,15],[2,24],[(5,24,yI,true)],[],[],[],[]⟩)],[],[],[]⟩
noncomputable def pol_Z98:Pol := ⟨66,[],[(4,⟨[0,3],[],[],[],[],[],[]⟩),(10,⟨[0,3,4,5],[],[],[],[],[],[]⟩)],[],[(1000047,⟨[0,3,4,47],[],[],[],[],[],[]⟩),(1000056,⟨[0,3,4,5,56],[],[],[],[],[],[]⟩)],[]⟩
noncomputable def pol_Z83:Pol := ⟨6,[],[],[],[],[]⟩
noncomputable def pol_Z103:Pol := ⟨61,[(12,[some 59]),(15,[some 60]),(50,[none,none,none,some 58])],[(3,⟨[0,1,2,6,7,8],[6,7,16,59,60],[],[],[],[],[]⟩),(7,⟨[0,1,2,6,7,8,9,10],[6,7,16,59,60],[],[],[],[],[]⟩)],[],[],[]⟩
noncomputable def pol_Z91:Pol := ⟨28,[(10,[none,none,none,some 27])],[(3,⟨[1,4,5,6],[4,5,27],[],[],[],[],[]⟩)],[],[],[]⟩
noncomputable def pol_Z106:Pol := ⟨32,[],[(4,⟨[1,7,8,9],[],[],[],[],[],[]⟩)],[],[],[]⟩
noncomputable def pol_Z11:Pol := ⟨21,[],[],[],[],[]⟩
noncomputable def pol_Z16:Pol := ⟨17,[],[],[],[],[]⟩
noncomputable def pol_Z66:Pol := ⟨11,[],[],[],[],[]⟩
noncomputable def pol_Z21:Pol := ⟨29,[(22,[some 28])],[(3,⟨[0,3,6,7],[24],[(3,24,yL,true)],[],[],[],[]⟩)],[],[],[]⟩
noncomputable def pol_Z9:Pol := ⟨16,[],[],[],[],[]⟩
noncomputable def pol_Z14:Pol := ⟨7,[],[],[],[],[]⟩
noncomputable def pol_Z33:Pol := ⟨31,[],[(3,⟨[2,5,11,12,13],[2],[],[],[],[],[]⟩)],[],[],[]⟩
noncomputable def pol_Z24:Pol := ⟨14,[(5,[some 12]),(9,[some 13])],[],[],[],[]⟩
noncomputable def pol_Z62:Pol := ⟨9,[],[],[],[(1000004,⟨[0,4],[],[],[],[],[],[]⟩)],[]⟩
noncomputable def pol_Z15:Pol := ⟨33,[],[(3,⟨[1,3,9,10],[1,28],[(3,28,(.st (.cons yI (.cons yI (.cons yI .nil)))),true)],[],[],[],[]⟩),(6,⟨[1,3,4,9,10,15,16,17],[1,28],[(3,28,(.st (.cons yI (.cons yI (.cons yI .nil)))),true)],[],[],[],[]⟩)],[],[],[]⟩
noncomputable def pol_Z18:Pol := ⟨13,[(5,[some 12])],[],[],[],[]⟩
noncomputable def pol_Z22:Pol := ⟨40,[],[(3,⟨[2,3,8,9,16,17],[8,9,31],[],[(9,3,31,yI,true)],[],[],[]⟩),(6,⟨[2,3,8,9,10,16,17,20,21],[8,9,31],[],[(9,3,31,yI,true)],[],[],[]⟩)],[],[],[]⟩
noncomputable def pol_Z35:Pol := ⟨10,[],[],[],[],[]⟩
noncomputable def pol_Z46:Pol := ⟨23,[],[(2,⟨[0,1,5],[],[],[],[],[],[]⟩)],[],[],[]⟩
noncomputable def pol_Z96:Pol := ⟨27,[],[(2,⟨[0,1,5],[],[],[],[],[],[]⟩)],[],[],[]⟩
noncomputable def pol_Z76:Pol := ⟨21,[],[(2,⟨[0,1,7,8],[],[],[],[],[],[]⟩)],[],[],[]⟩
noncomputable def pol_Z60:Pol := ⟨52,[],[(3,⟨[0,1,2,8,9,10],[],[],[],[],[],[]⟩)],[],[],[]⟩
noncomputable def pol_Z95:Pol := ⟨38,[],[(4,⟨[0,5,6,7],[15],[],[],[],[],[]⟩)],[],[(1000024,⟨[0,5,6,7,24],[15],[],[],[],[],[]⟩)],[]⟩
noncomputable def pol_Z31:Pol := ⟨6,[],[],[],[],[]⟩
noncomputable def pol_Z99:Pol := ⟨11,[],[],[],[],[]⟩
noncomputable def pol_Z93:Pol := ⟨42,[],[(4,⟨[0,1,5],[],[],[],[],[],[]⟩)],[],[],[]⟩
noncomputable def pol_Z94:Pol := ⟨19,[(9,[some 18])],[],[],[],[]⟩
noncomputable def pol_Z89:Pol := ⟨19,[],[(4,⟨[0,3],[],[],[],[],[],[]⟩)],[],[],[]⟩
noncomputable def pol_Z100:Pol := ⟨46,[(38,[some 45])],[(3,⟨[0,1,4,5,6],[4,5,7],[],[],[],[],[]⟩)],[],[],[]⟩
noncomputable def pol_Z92:Pol := ⟨18,[],[],[],[],[]⟩
noncomputable def pol_Z26:Pol := ⟨21,[],[(2,⟨[0,3],[],[],[],[],[],[]⟩)],[],[],[]⟩
noncomputable def pol_Z12:Pol := ⟨7,[],[],[],[],[]⟩
noncomputable def pol_Z27:Pol := ⟨6,[],[],[],[],[]⟩
noncomputable def pol_Z2:Pol := ⟨19,[],[(3,⟨[3,6,7,8],[],[],[],[],[],[]⟩)],[],[],[]⟩
noncomputable def pol_Z0:Pol := ⟨22,[],[],[],[],[]⟩
noncomputable def pol_Z64:Pol := ⟨38,[],[(2,⟨[0,1,9,10,11],[],[],[],[],[],[]⟩)],[],[],[]⟩
noncomputable def pol_Z74:Pol := ⟨21,[],[(2,⟨[0,1,7,8],[],[],[],[],[],[]⟩)],[],[],[]⟩
noncomputable def pol_Z65:Pol := ⟨38,[(24,[some 37])],[(3,⟨[0,3,9,10,11],[],[],[],[],[],[]⟩),(11,⟨[6,25,26,27],[37],[],[],[],[],[]⟩)],[],[],[]⟩
noncomputable def pol_Z17:Pol := ⟨21,[(14,[some 20])],[(3,⟨[3,6,7,8],[16],[(3,16,yL,true)],[],[],[],[]⟩)],[],[],[]⟩
noncomputable def pol_Z72:Pol := ⟨28,[],[(4,⟨[0,1,12,13],[],[],[],[],[],[]⟩)],[],[],[]⟩
noncomputable def pol_Z88:Pol := ⟨28,[],[(4,⟨[0,1,5],[],[],[],[],[],[]⟩)],[],[],[]⟩
noncomputable def pol_Z87:Pol := ⟨41,[],[(2,⟨[0,1,2,7],[],[],[],[],[],[]⟩)],[],[(1000037,⟨[0,1,2,7,37],[],[],[],[],[],[]⟩)],[]⟩
noncomputable def pol_Z3:Pol := ⟨7,[],[],[],[],[]⟩
noncomputable def pol_Z1:Pol := ⟨22,[],[],[],[],[]⟩
noncomputable def pol_Z4:Pol := ⟨7,[],[],[],[],[]⟩
noncomputable def sigL:List (Option Sig) := [none,none,none,none,some sg_Z37,none,none,some sg_Z54,none,some sg_Z57,none,some sg_Z43,some sg_Z38,some sg_Z49,some sg_Z53,some sg_Z48,some sg_Z82,some sg_Z58,some sg_Z5,some sg_Z39,some sg_Z50,none,none,none,none,none,none,some sg_Z41,none,none,none,some sg_Z45,some sg_Z56,some sg_Z101,some sg_Z85,some sg_Z102,some sg_Z105,some sg_Z59,some sg_Z8,some sg_Z10,some sg_Z36,some sg_Z13,some sg_Z19,some sg_Z28,none,some sg_Z34,some sg_Z42,some sg_Z40,some sg_Z51,some sg_Z52,some sg_Z44,some sg_Z47,some sg_Z97,some sg_Z90,some sg_Z84,some sg_Z107,some sg_Z30,some sg_Z68,some sg_Z6,some sg_Z7,some sg_Z25,some sg_Z80,some sg_Z55,none,none,none,none,none,none,some sg_Z86,some sg_Z104,none,none,none,none,some sg_Z32,some sg_Z20,none,none,none,none,none,none,none,none,none,none,none,none,some sg_Z98,some sg_Z83,some sg_Z103,some sg_Z91,some sg_Z106,some sg_Z11,some sg_Z16,some sg_Z66,some sg_Z21,some sg_Z9,some sg_Z14,some sg_Z33,some sg_Z24,some sg_Z62,some sg_Z15,some sg_Z18,some sg_Z22,some sg_Z35,some sg_Z46,some sg_Z96,some sg_Z76,some sg_Z60,none,some sg_Z95,none,none,none,some sg_Z31,none,none,none,none,none,none,some sg_Z99,some sg_Z93,some sg_Z94,some sg_Z89,some sg_Z100,some sg_Z92,some sg_Z26,some sg_Z12,some sg_Z27,some sg_Z2,some sg_Z0,some sg_Z64,some sg_Z74,some sg_Z65,some sg_Z17,some sg_Z81,some sg_Z63,some sg_Z72,some sg_Z88,none,none,none,none,none,none,none,none,none,none,none,none,none,none,none,none,none,none,some sg_Z87,some sg_Z3,some sg_Z1,some sg_Z73,none,none,none,none,none,none,none,none,none,none,none,none,none,none,none,none,none,none,none,none,none,none,some sg_Z4,none,none,none,none,none,none,none,none,none,none,none,none,none,none,none,none,none,none,none,none,none,none,none,none,none,none,none,none,none,none,none,none,none,none,none,none,none,none,none,none,none]
noncomputable def fnL:List (Option (Func × Pol)) := [none,none,none,none,some (F_Z37,pol_Z37),none,none,some (F_Z54,pol_Z54),none,some (F_Z57,pol_Z57),none,some (F_Z43,pol_Z43),some (F_Z38,pol_Z38),some (F_Z49,pol_Z49),some (F_Z53,pol_Z53),some (F_Z48,pol_Z48),some (F_Z82,pol_Z82),some (F_Z58,pol_Z58),some (F_Z5,pol_Z5),some (F_Z39,pol_Z39),some (F_Z50,pol_Z50),none,none,none,none,none,none,some (F_Z41,pol_Z41),none,none,none,some (F_Z45,pol_Z45),some (F_Z56,pol_Z56),some (F_Z101,pol_Z101),some (F_Z85,pol_Z85),some (F_Z102,pol_Z102),some (F_Z105,pol_Z105),some (F_Z59,pol_Z59),some (F_Z8,pol_Z8),some (F_Z10,pol_Z10),some (F_Z36,pol_Z36),some (F_Z13,pol_Z13),some (F_Z19,pol_Z19),some (F_Z28,pol_Z28),none,some (F_Z34,pol_Z34),some (F_Z42,pol_Z42),some (F_Z40,pol_Z40),none,none,some (F_Z44,pol_Z44),some (F_Z47,pol_Z47),some (F_Z97,pol_Z97),some (F_Z90,pol_Z90),some (F_Z84,pol_Z84),some (F_Z107,pol_Z107),some (F_Z30,pol_Z30),some (F_Z68,pol_Z68),some (F_Z6,pol_Z6),some (F_Z7,pol_Z7),some (F_Z25,pol_Z25),some (F_Z80,pol_Z80),some (F_Z55,pol_Z55),none,none,none,none,none,none,some (F_Z86,pol_Z86),some (F_Z104,pol_Z104),none,none,none,none,some (F_Z32,pol_Z32),some (F_Z20,pol_Z20),none,none,none,none,none,none,none,none,none,none,none,none,some (F_Z98,pol_Z98),some (F_Z83,pol_Z83),some (F_Z103,pol_Z103),some (F_Z91,pol_Z91),some (F_Z106,pol_Z106),some (F_Z11,pol_Z11),some (F_Z16,pol_Z16),some (F_Z66,pol_Z66),some (F_Z21,pol_Z21),some (F_Z9,pol_Z9),some (F_Z14,pol_Z14),some (F_Z33,pol_Z33),some (F_Z24,pol_Z24),some (F_Z62,pol_Z62),some (F_Z15,pol_Z15),some (F_Z18,pol_Z18),some (F_Z22,pol_Z22),some (F_Z35,pol_Z35),some (F_Z46,pol_Z46),some (F_Z96,pol_Z96),some (F_Z76,pol_Z76),some (F_Z60,pol_Z60),none,some (F_Z95,pol_Z95),none,none,none,some (F_Z31,pol_Z31),none,none,none,none,none,none,some (F_Z99,pol_Z99),some (F_Z93,pol_Z93),some (F_Z94,pol_Z94),some (F_Z89,pol_Z89),some (F_Z100,pol_Z100),some (F_Z92,pol_Z92),some (F_Z26,pol_Z26),some (F_Z12,pol_Z12),some (F_Z27,pol_Z27),some (F_Z2,pol_Z2),some (F_Z0,pol_Z0),some (F_Z64,pol_Z64),some (F_Z74,pol_Z74),some (F_Z65,pol_Z65),some (F_Z17,pol_Z17),none,none,some (F_Z72,pol_Z72),some (F_Z88,pol_Z88),none,none,none,none,none,none,none,none,none,none,none,none,none,none,none,none,none,none,some (F_Z87,pol_Z87),some (F_Z3,pol_Z3),some (F_Z1,pol_Z1),none,none,none,none,none,none,none,none,none,none,none,none,none,none,none,none,none,none,none,none,none,none,none,some (F_Z4,pol_Z4),none,none,none,none,none,none,none,none,none,none,none,none,none,none,none,none,none,none,none,none,none,none,none,none,none,none,none,none,none,none,none,none,none,none,none,none,none,none,none,none,none]
noncomputable def primL:List (Option (Run → List Dv → Option Dv)) := [none,none,none,none,none,none,none,none,none,none,none,none,none,none,none,none,none,none,none,none,none,none,none,none,none,none,none,none,none,none,none,none,none,none,none,none,none,none,none,none,none,none,none,none,none,none,none,none,some (pMarkSS n_Z50),some (pMarkMS n_Z50),none,none,none,none,none,none,none,none,none,none,none,none,none,none,none,none,none,none,none,none,none,none,none,none,none,none,none,none,none,none,none,none,none,none,none,none,none,none,none,none,none,none,none,none,none,none,none,none,none,none,none,none,none,none,none,none,none,none,none,none,none,none,none,none,none,none,none,none,none,none,none,none,none,none,none,none,none,none,none,none,none,none,none,none,none,none,none,none,some (pSortF n_Z16),some (pCompF n_Z72),none,none,none,none,none,none,none,none,none,none,none,none,none,none,none,none,none,none,none,none,none,none,none,some (pGrow yI),none,none,none,none,none,none,none,none,none,none,none,none,none,none,none,none,none,none,none,none,none,none,none,none,none,none,none,none,none,none,none,none,none,none,none,none,none,none,none,none,none,none,none,none,none,none,none,none,none,none,none,none,none,none,none,none,none,none,none,none,none,none,none,none]
noncomputable def E:Env := { P := Tryz.prog,fn := fun f => fnL.getD f none,prim := fun f => primL.getD f none,sig := fun f => sigL.getD f none }
theorem sig_laws_FnExactTwistedSheaf_eq:E.sig n_Z37 = some sg_Z37 := rfl
theorem run_Z37 (n:Nat) (args:List Dv):run E (n + 1) n_Z37 args = evFn E (mkR (run E n)) sg_Z37 pol_Z37 F_Z37 n args := rfl
theorem sig_laws_szComplex_eq:E.sig n_Z54 = some sg_Z54 := rfl
theorem run_Z54 (n:Nat) (args:List Dv):run E (n + 1) n_Z54 args = evFn E (mkR (run E n)) sg_Z54 pol_Z54 F_Z54 n args := rfl
theorem sig_laws_toComplex_eq:E.sig n_Z57 = some sg_Z57 := rfl
theorem run_Z57 (n:Nat) (args:List Dv):run E (n + 1) n_Z57 args = evFn E (mkR (run E n)) sg_Z57 pol_Z57 F_Z57 n args := rfl
theorem sig_laws_eqSheaf_eq:E.sig n_Z43 = some sg_Z43 := rfl
theorem run_Z43 (n:Nat) (args:List Dv):run E (n + 1) n_Z43 args = evFn E (mkR (run E n)) sg_Z43 pol_Z43 F_Z43 n args := rfl
theorem sig_laws_eqComplex_eq:E.sig n_Z38 = some sg_Z38 := rfl
theorem run_Z38 (n:Nat) (args:List Dv):run E (n + 1) n_Z38 args = evFn E (mkR (run E n)) sg_Z38 pol_Z38 F_Z38 n args := rfl
theorem sig_laws_markComplex_eq:E.sig n_Z49 = some sg_Z49 := rfl
theorem run_Z49 (n:Nat) (args:List Dv):run E (n + 1) n_Z49 args = evFn E (mkR (run E n)) sg_Z49 pol_Z49 F_Z49 n args := rfl
theorem sig_laws_markSheaf_eq:E.sig n_Z53 = some sg_Z53 := rfl
theorem run_Z53 (n:Nat) (args:List Dv):run E (n + 1) n_Z53 args = evFn E (mkR (run E n)) sg_Z53 pol_Z53 F_Z53 n args := rfl
theorem sig_laws_heldSheaf_eq:E.sig n_Z48 = some sg_Z48 := rfl
theorem run_Z48 (n:Nat) (args:List Dv):run E (n + 1) n_Z48 args = evFn E (mkR (run E n)) sg_Z48 pol_Z48 F_Z48 n args := rfl
theorem sig_spec_TwistedSheaf_eq:E.sig n_Z82 = some sg_Z82 := rfl
theorem run_Z82 (n:Nat) (args:List Dv):run E (n + 1) n_Z82 args = evFn E (mkR (run E n)) sg_Z82 pol_Z82 F_Z82 n args := rfl
theorem sig_laws_toInt64S_eq:E.sig n_Z58 = some sg_Z58 := rfl
theorem run_Z58 (n:Nat) (args:List Dv):run E (n + 1) n_Z58 args = evFn E (mkR (run E n)) sg_Z58 pol_Z58 F_Z58 n args := rfl
theorem sig_impl_TwistedSheaf_eq:E.sig n_Z5 = some sg_Z5 := rfl
theorem run_Z5 (n:Nat) (args:List Dv):run E (n + 1) n_Z5 args = evFn E (mkR (run E n)) sg_Z5 pol_Z5 F_Z5 n args := rfl
theorem sig_laws_eqInt64S_eq:E.sig n_Z39 = some sg_Z39 := rfl
theorem run_Z39 (n:Nat) (args:List Dv):run E (n + 1) n_Z39 args = evFn E (mkR (run E n)) sg_Z39 pol_Z39 F_Z39 n args := rfl
theorem sig_laws_markInt64S_eq:E.sig n_Z50 = some sg_Z50 := rfl
theorem run_Z50 (n:Nat) (args:List Dv):run E (n + 1) n_Z50 args = evFn E (mkR (run E n)) sg_Z50 pol_Z50 F_Z50 n args := rfl
theorem sig_laws_eqMatrix_eq:E.sig n_Z41 = some sg_Z41 := rfl
theorem run_Z41 (n:Nat) (args:List Dv):run E (n + 1) n_Z41 args = evFn E (mkR (run E n)) sg_Z41 pol_Z41 F_Z41 n args := rfl
theorem sig_laws_heldInt64S_eq:E.sig n_Z45 = some sg_Z45 := rfl
theorem run_Z45 (n:Nat) (args:List Dv):run E (n + 1) n_Z45 args = evFn E (mkR (run E n)) sg_Z45 pol_Z45 F_Z45 n args := rfl
theorem sig_laws_szInt64SS_eq:E.sig n_Z56 = some sg_Z56 := rfl
theorem run_Z56 (n:Nat) (args:List Dv):run E (n + 1) n_Z56 args = evFn E (mkR (run E n)) sg_Z56 pol_Z56 F_Z56 n args := rfl
theorem sig_spec_l09Base_eq:E.sig n_Z101 = some sg_Z101 := rfl
theorem run_Z101 (n:Nat) (args:List Dv):run E (n + 1) n_Z101 args = evFn E (mkR (run E n)) sg_Z101 pol_Z101 F_Z101 n args := rfl
theorem sig_spec_l00In_eq:E.sig n_Z85 = some sg_Z85 := rfl
theorem run_Z85 (n:Nat) (args:List Dv):run E (n + 1) n_Z85 args = evFn E (mkR (run E n)) sg_Z85 pol_Z85 F_Z85 n args := rfl
theorem sig_spec_l09Constant_eq:E.sig n_Z102 = some sg_Z102 := rfl
theorem run_Z102 (n:Nat) (args:List Dv):run E (n + 1) n_Z102 args = evFn E (mkR (run E n)) sg_Z102 pol_Z102 F_Z102 n args := rfl
theorem sig_spec_l09Stalks_eq:E.sig n_Z105 = some sg_Z105 := rfl
theorem run_Z105 (n:Nat) (args:List Dv):run E (n + 1) n_Z105 args = evFn E (mkR (run E n)) sg_Z105 pol_Z105 F_Z105 n args := rfl
theorem sig_laws_toInt64SS_eq:E.sig n_Z59 = some sg_Z59 := rfl
theorem run_Z59 (n:Nat) (args:List Dv):run E (n + 1) n_Z59 args = evFn E (mkR (run E n)) sg_Z59 pol_Z59 F_Z59 n args := rfl
theorem sig_impl_ValidComplex_eq:E.sig n_Z8 = some sg_Z8 := rfl
theorem run_Z8 (n:Nat) (args:List Dv):run E (n + 1) n_Z8 args = evFn E (mkR (run E n)) sg_Z8 pol_Z8 F_Z8 n args := rfl
theorem sig_impl_ValidPrime_eq:E.sig n_Z10 = some sg_Z10 := rfl
theorem run_Z10 (n:Nat) (args:List Dv):run E (n + 1) n_Z10 args = evFn E (mkR (run E n)) sg_Z10 pol_Z10 F_Z10 n args := rfl
theorem sig_impl_within_eq:E.sig n_Z36 = some sg_Z36 := rfl
theorem run_Z36 (n:Nat) (args:List Dv):run E (n + 1) n_Z36 args = evFn E (mkR (run E n)) sg_Z36 pol_Z36 F_Z36 n args := rfl
theorem sig_impl_areStalks_eq:E.sig n_Z13 = some sg_Z13 := rfl
theorem run_Z13 (n:Nat) (args:List Dv):run E (n + 1) n_Z13 args = evFn E (mkR (run E n)) sg_Z13 pol_Z13 F_Z13 n args := rfl
theorem sig_impl_equalStalks_eq:E.sig n_Z19 = some sg_Z19 := rfl
theorem run_Z19 (n:Nat) (args:List Dv):run E (n + 1) n_Z19 args = evFn E (mkR (run E n)) sg_Z19 pol_Z19 F_Z19 n args := rfl
theorem sig_impl_sheafOf_eq:E.sig n_Z28 = some sg_Z28 := rfl
theorem run_Z28 (n:Nat) (args:List Dv):run E (n + 1) n_Z28 args = evFn E (mkR (run E n)) sg_Z28 pol_Z28 F_Z28 n args := rfl
theorem sig_impl_unit_eq:E.sig n_Z34 = some sg_Z34 := rfl
theorem run_Z34 (n:Nat) (args:List Dv):run E (n + 1) n_Z34 args = evFn E (mkR (run E n)) sg_Z34 pol_Z34 F_Z34 n args := rfl
theorem sig_laws_eqMatrixS_eq:E.sig n_Z42 = some sg_Z42 := rfl
theorem run_Z42 (n:Nat) (args:List Dv):run E (n + 1) n_Z42 args = evFn E (mkR (run E n)) sg_Z42 pol_Z42 F_Z42 n args := rfl
theorem sig_laws_eqInt64SS_eq:E.sig n_Z40 = some sg_Z40 := rfl
theorem run_Z40 (n:Nat) (args:List Dv):run E (n + 1) n_Z40 args = evFn E (mkR (run E n)) sg_Z40 pol_Z40 F_Z40 n args := rfl
theorem sig_laws_markInt64SS_eq:E.sig n_Z51 = some sg_Z51 := rfl
theorem sig_laws_markMatrixS_eq:E.sig n_Z52 = some sg_Z52 := rfl
theorem sig_laws_heldComplex_eq:E.sig n_Z44 = some sg_Z44 := rfl
theorem run_Z44 (n:Nat) (args:List Dv):run E (n + 1) n_Z44 args = evFn E (mkR (run E n)) sg_Z44 pol_Z44 F_Z44 n args := rfl
theorem sig_laws_heldMatrixS_eq:E.sig n_Z47 = some sg_Z47 := rfl
theorem run_Z47 (n:Nat) (args:List Dv):run E (n + 1) n_Z47 args = evFn E (mkR (run E n)) sg_Z47 pol_Z47 F_Z47 n args := rfl
theorem sig_spec_l05Of_eq:E.sig n_Z97 = some sg_Z97 := rfl
theorem run_Z97 (n:Nat) (args:List Dv):run E (n + 1) n_Z97 args = evFn E (mkR (run E n)) sg_Z97 pol_Z97 F_Z97 n args := rfl
theorem sig_spec_l03Column_eq:E.sig n_Z90 = some sg_Z90 := rfl
theorem run_Z90 (n:Nat) (args:List Dv):run E (n + 1) n_Z90 args = evFn E (mkR (run E n)) sg_Z90 pol_Z90 F_Z90 n args := rfl
theorem sig_spec_l00Has_eq:E.sig n_Z84 = some sg_Z84 := rfl
theorem run_Z84 (n:Nat) (args:List Dv):run E (n + 1) n_Z84 args = evFn E (mkR (run E n)) sg_Z84 pol_Z84 F_Z84 n args := rfl
theorem sig_spec_l09Twisted_eq:E.sig n_Z107 = some sg_Z107 := rfl
theorem run_Z107 (n:Nat) (args:List Dv):run E (n + 1) n_Z107 args = evFn E (mkR (run E n)) sg_Z107 pol_Z107 F_Z107 n args := rfl
theorem sig_impl_simplicesOf_eq:E.sig n_Z30 = some sg_Z30 := rfl
theorem run_Z30 (n:Nat) (args:List Dv):run E (n + 1) n_Z30 args = evFn E (mkR (run E n)) sg_Z30 pol_Z30 F_Z30 n args := rfl
theorem sig_slices_ContainsFunc_Sint64_int64_eq:E.sig n_Z68 = some sg_Z68 := rfl
theorem run_Z68 (n:Nat) (args:List Dv):run E (n + 1) n_Z68 args = evFn E (mkR (run E n)) sg_Z68 pol_Z68 F_Z68 n args := rfl
theorem sig_impl_TwistedSheaf_1_eq:E.sig n_Z6 = some sg_Z6 := rfl
theorem run_Z6 (n:Nat) (args:List Dv):run E (n + 1) n_Z6 args = evFn E (mkR (run E n)) sg_Z6 pol_Z6 F_Z6 n args := rfl
theorem sig_impl_TwistedSheaf_2_eq:E.sig n_Z7 = some sg_Z7 := rfl
theorem run_Z7 (n:Nat) (args:List Dv):run E (n + 1) n_Z7 args = evFn E (mkR (run E n)) sg_Z7 pol_Z7 F_Z7 n args := rfl
theorem sig_impl_indexOf_eq:E.sig n_Z25 = some sg_Z25 := rfl
theorem run_Z25 (n:Nat) (args:List Dv):run E (n + 1) n_Z25 args = evFn E (mkR (run E n)) sg_Z25 pol_Z25 F_Z25 n args := rfl
theorem sig_slices_Index_Sint64_int64_eq:E.sig n_Z80 = some sg_Z80 := rfl
theorem run_Z80 (n:Nat) (args:List Dv):run E (n + 1) n_Z80 args = evFn E (mkR (run E n)) sg_Z80 pol_Z80 F_Z80 n args := rfl
theorem sig_laws_szInt64S_eq:E.sig n_Z55 = some sg_Z55 := rfl
theorem run_Z55 (n:Nat) (args:List Dv):run E (n + 1) n_Z55 args = evFn E (mkR (run E n)) sg_Z55 pol_Z55 F_Z55 n args := rfl
theorem sig_spec_l00Own_eq:E.sig n_Z86 = some sg_Z86 := rfl
theorem run_Z86 (n:Nat) (args:List Dv):run E (n + 1) n_Z86 args = evFn E (mkR (run E n)) sg_Z86 pol_Z86 F_Z86 n args := rfl
theorem sig_spec_l09Place_eq:E.sig n_Z104 = some sg_Z104 := rfl
theorem run_Z104 (n:Nat) (args:List Dv):run E (n + 1) n_Z104 args = evFn E (mkR (run E n)) sg_Z104 pol_Z104 F_Z104 n args := rfl
theorem sig_impl_size_int64_eq:E.sig n_Z32 = some sg_Z32 := rfl
theorem run_Z32 (n:Nat) (args:List Dv):run E (n + 1) n_Z32 args = evFn E (mkR (run E n)) sg_Z32 pol_Z32 F_Z32 n args := rfl
theorem sig_impl_faceIndices_eq:E.sig n_Z20 = some sg_Z20 := rfl
theorem run_Z20 (n:Nat) (args:List Dv):run E (n + 1) n_Z20 args = evFn E (mkR (run E n)) sg_Z20 pol_Z20 F_Z20 n args := rfl
theorem sig_spec_l05Ok_eq:E.sig n_Z98 = some sg_Z98 := rfl
theorem run_Z98 (n:Nat) (args:List Dv):run E (n + 1) n_Z98 args = evFn E (mkR (run E n)) sg_Z98 pol_Z98 F_Z98 n args := rfl
theorem sig_spec_ValidPrime_eq:E.sig n_Z83 = some sg_Z83 := rfl
theorem run_Z83 (n:Nat) (args:List Dv):run E (n + 1) n_Z83 args = evFn E (mkR (run E n)) sg_Z83 pol_Z83 F_Z83 n args := rfl
theorem sig_spec_l09New_eq:E.sig n_Z103 = some sg_Z103 := rfl
theorem run_Z103 (n:Nat) (args:List Dv):run E (n + 1) n_Z103 args = evFn E (mkR (run E n)) sg_Z103 pol_Z103 F_Z103 n args := rfl
theorem sig_spec_l03Unit_eq:E.sig n_Z91 = some sg_Z91 := rfl
theorem run_Z91 (n:Nat) (args:List Dv):run E (n + 1) n_Z91 args = evFn E (mkR (run E n)) sg_Z91 pol_Z91 F_Z91 n args := rfl
theorem sig_spec_l09Sum_eq:E.sig n_Z106 = some sg_Z106 := rfl
theorem run_Z106 (n:Nat) (args:List Dv):run E (n + 1) n_Z106 args = evFn E (mkR (run E n)) sg_Z106 pol_Z106 F_Z106 n args := rfl
theorem sig_impl_ValidSimplex_eq:E.sig n_Z11 = some sg_Z11 := rfl
theorem run_Z11 (n:Nat) (args:List Dv):run E (n + 1) n_Z11 args = evFn E (mkR (run E n)) sg_Z11 pol_Z11 F_Z11 n args := rfl
theorem sig_impl_compareSimplices_eq:E.sig n_Z16 = some sg_Z16 := rfl
theorem run_Z16 (n:Nat) (args:List Dv):run E (n + 1) n_Z16 args = evFn E (mkR (run E n)) sg_Z16 pol_Z16 F_Z16 n args := rfl
theorem sig_slices_ContainsFunc_SSint64_Sint64_eq:E.sig n_Z66 = some sg_Z66 := rfl
theorem run_Z66 (n:Nat) (args:List Dv):run E (n + 1) n_Z66 args = evFn E (mkR (run E n)) sg_Z66 pol_Z66 F_Z66 n args := rfl
theorem sig_impl_facesOf_eq:E.sig n_Z21 = some sg_Z21 := rfl
theorem run_Z21 (n:Nat) (args:List Dv):run E (n + 1) n_Z21 args = evFn E (mkR (run E n)) sg_Z21 pol_Z21 F_Z21 n args := rfl
theorem sig_impl_ValidComplex_1_eq:E.sig n_Z9 = some sg_Z9 := rfl
theorem run_Z9 (n:Nat) (args:List Dv):run E (n + 1) n_Z9 args = evFn E (mkR (run E n)) sg_Z9 pol_Z9 F_Z9 n args := rfl
theorem sig_impl_areStalks_1_eq:E.sig n_Z14 = some sg_Z14 := rfl
theorem run_Z14 (n:Nat) (args:List Dv):run E (n + 1) n_Z14 args = evFn E (mkR (run E n)) sg_Z14 pol_Z14 F_Z14 n args := rfl
theorem sig_impl_stalkSum_eq:E.sig n_Z33 = some sg_Z33 := rfl
theorem run_Z33 (n:Nat) (args:List Dv):run E (n + 1) n_Z33 args = evFn E (mkR (run E n)) sg_Z33 pol_Z33 F_Z33 n args := rfl
theorem sig_impl_inOrder_eq:E.sig n_Z24 = some sg_Z24 := rfl
theorem run_Z24 (n:Nat) (args:List Dv):run E (n + 1) n_Z24 args = evFn E (mkR (run E n)) sg_Z24 pol_Z24 F_Z24 n args := rfl
theorem sig_slices_Clone_Sint64_int64_eq:E.sig n_Z62 = some sg_Z62 := rfl
theorem run_Z62 (n:Nat) (args:List Dv):run E (n + 1) n_Z62 args = evFn E (mkR (run E n)) sg_Z62 pol_Z62 F_Z62 n args := rfl
theorem sig_impl_arrows_eq:E.sig n_Z15 = some sg_Z15 := rfl
theorem run_Z15 (n:Nat) (args:List Dv):run E (n + 1) n_Z15 args = evFn E (mkR (run E n)) sg_Z15 pol_Z15 F_Z15 n args := rfl
theorem sig_impl_copyMatrix_eq:E.sig n_Z18 = some sg_Z18 := rfl
theorem run_Z18 (n:Nat) (args:List Dv):run E (n + 1) n_Z18 args = evFn E (mkR (run E n)) sg_Z18 pol_Z18 F_Z18 n args := rfl
theorem sig_impl_filled_eq:E.sig n_Z22 = some sg_Z22 := rfl
theorem run_Z22 (n:Nat) (args:List Dv):run E (n + 1) n_Z22 args = evFn E (mkR (run E n)) sg_Z22 pol_Z22 F_Z22 n args := rfl
theorem sig_impl_unit_1_eq:E.sig n_Z35 = some sg_Z35 := rfl
theorem run_Z35 (n:Nat) (args:List Dv):run E (n + 1) n_Z35 args = evFn E (mkR (run E n)) sg_Z35 pol_Z35 F_Z35 n args := rfl
theorem sig_laws_heldInt64SS_eq:E.sig n_Z46 = some sg_Z46 := rfl
theorem run_Z46 (n:Nat) (args:List Dv):run E (n + 1) n_Z46 args = evFn E (mkR (run E n)) sg_Z46 pol_Z46 F_Z46 n args := rfl
theorem sig_spec_l05Find_eq:E.sig n_Z96 = some sg_Z96 := rfl
theorem run_Z96 (n:Nat) (args:List Dv):run E (n + 1) n_Z96 args = evFn E (mkR (run E n)) sg_Z96 pol_Z96 F_Z96 n args := rfl
theorem sig_slices_IndexFunc_Sint64_int64_eq:E.sig n_Z76 = some sg_Z76 := rfl
theorem run_Z76 (n:Nat) (args:List Dv):run E (n + 1) n_Z76 args = evFn E (mkR (run E n)) sg_Z76 pol_Z76 F_Z76 n args := rfl
theorem sig_slices_BinarySearchFunc_SSint64_Sint64_Sint64_eq:E.sig n_Z60 = some sg_Z60 := rfl
theorem run_Z60 (n:Nat) (args:List Dv):run E (n + 1) n_Z60 args = evFn E (mkR (run E n)) sg_Z60 pol_Z60 F_Z60 n args := rfl
theorem sig_spec_l05Faces_eq:E.sig n_Z95 = some sg_Z95 := rfl
theorem run_Z95 (n:Nat) (args:List Dv):run E (n + 1) n_Z95 args = evFn E (mkR (run E n)) sg_Z95 pol_Z95 F_Z95 n args := rfl
theorem sig_impl_size_Sint64_eq:E.sig n_Z31 = some sg_Z31 := rfl
theorem run_Z31 (n:Nat) (args:List Dv):run E (n + 1) n_Z31 args = evFn E (mkR (run E n)) sg_Z31 pol_Z31 F_Z31 n args := rfl
theorem sig_spec_l05Simplex_eq:E.sig n_Z99 = some sg_Z99 := rfl
theorem run_Z99 (n:Nat) (args:List Dv):run E (n + 1) n_Z99 args = evFn E (mkR (run E n)) sg_Z99 pol_Z99 F_Z99 n args := rfl
theorem sig_spec_l05Before_eq:E.sig n_Z93 = some sg_Z93 := rfl
theorem run_Z93 (n:Nat) (args:List Dv):run E (n + 1) n_Z93 args = evFn E (mkR (run E n)) sg_Z93 pol_Z93 F_Z93 n args := rfl
theorem sig_spec_l05Drop_eq:E.sig n_Z94 = some sg_Z94 := rfl
theorem run_Z94 (n:Nat) (args:List Dv):run E (n + 1) n_Z94 args = evFn E (mkR (run E n)) sg_Z94 pol_Z94 F_Z94 n args := rfl
theorem sig_spec_l02Prime_eq:E.sig n_Z89 = some sg_Z89 := rfl
theorem run_Z89 (n:Nat) (args:List Dv):run E (n + 1) n_Z89 args = evFn E (mkR (run E n)) sg_Z89 pol_Z89 F_Z89 n args := rfl
theorem sig_spec_l05Skeleton_eq:E.sig n_Z100 = some sg_Z100 := rfl
theorem run_Z100 (n:Nat) (args:List Dv):run E (n + 1) n_Z100 args = evFn E (mkR (run E n)) sg_Z100 pol_Z100 F_Z100 n args := rfl
theorem sig_spec_l03Zero_eq:E.sig n_Z92 = some sg_Z92 := rfl
theorem run_Z92 (n:Nat) (args:List Dv):run E (n + 1) n_Z92 args = evFn E (mkR (run E n)) sg_Z92 pol_Z92 F_Z92 n args := rfl
theorem sig_impl_isRising_eq:E.sig n_Z26 = some sg_Z26 := rfl
theorem run_Z26 (n:Nat) (args:List Dv):run E (n + 1) n_Z26 args = evFn E (mkR (run E n)) sg_Z26 pol_Z26 F_Z26 n args := rfl
theorem sig_impl_ValidSimplex_1_eq:E.sig n_Z12 = some sg_Z12 := rfl
theorem run_Z12 (n:Nat) (args:List Dv):run E (n + 1) n_Z12 args = evFn E (mkR (run E n)) sg_Z12 pol_Z12 F_Z12 n args := rfl
theorem sig_impl_isVertex_eq:E.sig n_Z27 = some sg_Z27 := rfl
theorem run_Z27 (n:Nat) (args:List Dv):run E (n + 1) n_Z27 args = evFn E (mkR (run E n)) sg_Z27 pol_Z27 F_Z27 n args := rfl
theorem sig_cmp_Or_int_eq:E.sig n_Z2 = some sg_Z2 := rfl
theorem run_Z2 (n:Nat) (args:List Dv):run E (n + 1) n_Z2 args = evFn E (mkR (run E n)) sg_Z2 pol_Z2 F_Z2 n args := rfl
theorem sig_cmp_Compare_int_eq:E.sig n_Z0 = some sg_Z0 := rfl
theorem run_Z0 (n:Nat) (args:List Dv):run E (n + 1) n_Z0 args = evFn E (mkR (run E n)) sg_Z0 pol_Z0 F_Z0 n args := rfl
theorem sig_slices_Compare_Sint64_int64_eq:E.sig n_Z64 = some sg_Z64 := rfl
theorem run_Z64 (n:Nat) (args:List Dv):run E (n + 1) n_Z64 args = evFn E (mkR (run E n)) sg_Z64 pol_Z64 F_Z64 n args := rfl
theorem sig_slices_IndexFunc_SSint64_Sint64_eq:E.sig n_Z74 = some sg_Z74 := rfl
theorem run_Z74 (n:Nat) (args:List Dv):run E (n + 1) n_Z74 args = evFn E (mkR (run E n)) sg_Z74 pol_Z74 F_Z74 n args := rfl
theorem sig_slices_Concat_Sint64_int64_eq:E.sig n_Z65 = some sg_Z65 := rfl
theorem run_Z65 (n:Nat) (args:List Dv):run E (n + 1) n_Z65 args = evFn E (mkR (run E n)) sg_Z65 pol_Z65 F_Z65 n args := rfl
theorem sig_impl_copyLists_eq:E.sig n_Z17 = some sg_Z17 := rfl
theorem run_Z17 (n:Nat) (args:List Dv):run E (n + 1) n_Z17 args = evFn E (mkR (run E n)) sg_Z17 pol_Z17 F_Z17 n args := rfl
theorem sig_slices_SortFunc_SSint64_Sint64_eq:E.sig n_Z81 = some sg_Z81 := rfl
theorem sig_slices_CompactFunc_SSint64_Sint64_eq:E.sig n_Z63 = some sg_Z63 := rfl
theorem sig_slices_Equal_Sint64_int64_eq:E.sig n_Z72 = some sg_Z72 := rfl
theorem run_Z72 (n:Nat) (args:List Dv):run E (n + 1) n_Z72 args = evFn E (mkR (run E n)) sg_Z72 pol_Z72 F_Z72 n args := rfl
theorem sig_spec_l00Same_eq:E.sig n_Z88 = some sg_Z88 := rfl
theorem run_Z88 (n:Nat) (args:List Dv):run E (n + 1) n_Z88 args = evFn E (mkR (run E n)) sg_Z88 pol_Z88 F_Z88 n args := rfl
theorem sig_spec_l00Rises_eq:E.sig n_Z87 = some sg_Z87 := rfl
theorem run_Z87 (n:Nat) (args:List Dv):run E (n + 1) n_Z87 args = evFn E (mkR (run E n)) sg_Z87 pol_Z87 F_Z87 n args := rfl
theorem sig_cmp_isNaN_int_eq:E.sig n_Z3 = some sg_Z3 := rfl
theorem run_Z3 (n:Nat) (args:List Dv):run E (n + 1) n_Z3 args = evFn E (mkR (run E n)) sg_Z3 pol_Z3 F_Z3 n args := rfl
theorem sig_cmp_Compare_int64_eq:E.sig n_Z1 = some sg_Z1 := rfl
theorem run_Z1 (n:Nat) (args:List Dv):run E (n + 1) n_Z1 args = evFn E (mkR (run E n)) sg_Z1 pol_Z1 F_Z1 n args := rfl
theorem sig_slices_Grow_Sint64_int64_eq:E.sig n_Z73 = some sg_Z73 := rfl
theorem sig_cmp_isNaN_int64_eq:E.sig n_Z4 = some sg_Z4 := rfl
theorem run_Z4 (n:Nat) (args:List Dv):run E (n + 1) n_Z4 args = evFn E (mkR (run E n)) sg_Z4 pol_Z4 F_Z4 n args := rfl
@[reducible] noncomputable def eC (R:Run) (q:Pol) (N:Nat) (l:List Nat) (F:Func) := evCode E R q N (sub l (bodyOf F))
@[reducible] noncomputable def kB (R:Run) (q:Pol) (k:Nat) (K:Kt) := kBlk (maskAt R q.blkM k) k K
@[reducible] noncomputable def kS (R:Run) (q:Pol) (k N:Nat) (l:List Nat) (F:Func) (K:Kt) := kSeq (maskAt R q.seqM k) (evCode E R q N (sub l (bodyOf F))) K
@[reducible] noncomputable def kL (R:Run) (q:Pol) (k N:Nat) (l:List Nat) (F:Func) (n:Nat) (K:Kt) := kLoop (evCode E R q N (sub l (bodyOf F))) (maskAt R q.loopM k) n K
@[reducible] noncomputable def lC (R:Run) (q:Pol) (k N:Nat) (l:List Nat) (F:Func) (n:Nat) (s:Ve.St) (K:Kt) := loopC (evCode E R q N (sub l (bodyOf F))) (maskAt R q.loopM k) n s K
end VeT

open Go Go.Proofs Ve
set_option linter.unusedVariables false
set_option maxRecDepth 100000
namespace VeT
@[reducible] noncomputable def q0_0 (R:Run) (N:Nat):=kS R pol_Z98 5 N [1,1,0,1,0,0,1,1] F_Z98
@[reducible] noncomputable def q0_1 (R:Run) (N:Nat):=kS R pol_Z98 14 N [1,1,1] F_Z98
@[reducible] noncomputable def q0_2 (R:Run) (N:Nat):=kS R pol_Z76 7 N [1,1] F_Z76
@[reducible] noncomputable def q0_3 (R:Run) (N:Nat):=kL R pol_Z98 4 N [1,1,0,1,0,0] F_Z98
@[reducible] noncomputable def q0_4 (R:Run) (N:Nat):=lC R pol_Z76 2 N [1,0,1,0,0] F_Z76
@[reducible] noncomputable def q0_5 (R:Run):=kB R pol_Z76 0
theorem Z55.ev (R:Run) (N:Nat) (a0:(List Int)) (a1:Int):evFn E R sg_Z55 pol_Z55 F_Z55 N [⟨yL,a0⟩,⟨yI,a1⟩] = (bif (decide ((w64 (a1 - (List.length a0:Int))) < (0:Int))) then some ⟨o_Z55,((-1:Int),())⟩ else some ⟨o_Z55,((w64 (a1 - (List.length a0:Int))),())⟩) := by kernel_rfl
noncomputable def Z56.l0 (R:Run) (N n:Nat) (a:vK) (b e:Int):Option Dv := R.w (some ⟨(.c (.d yK a)::(.c (.d yI b)::(zd 3 (.c (.d yI e)::(zd 21 []))))),(zo 29 [])⟩) fun st => lC R pol_Z56 5 N [1,1,1,0,1,0,0] F_Z56 n st (kB R pol_Z56 0 (kS R pol_Z56 10 N [1,1,1,1] F_Z56 (kTop E sg_Z56 F_Z56)))
theorem Z56.l0_succ (R:Run) (hw:R.ok) (N n:Nat) (a:vK) (b c:Int):Z56.l0 R N (n + 1) a b c = (bif (decide (c < (List.length a:Int))) then ((idx? a c).bind fun y4 => ((callT R n_Z55 o_Z55 [⟨yL,(y4,()).1⟩,⟨yI,b⟩]).bind fun r5 => (bif (decide (r5.1 < (0:Int))) then some ⟨o_Z56,((-1:Int),())⟩ else (Z56.l0 R N n a r5.1 (w64 (c + (1:Int))))))) else some ⟨o_Z56,(b,())⟩) := (hw _ _).trans (by kernel_rfl)
theorem Z56.ev (R:Run) (N:Nat) (a0:vK) (a1:Int):evFn E R sg_Z56 pol_Z56 F_Z56 N [⟨yK,a0⟩,⟨yI,a1⟩] = (bif (decide ((w64 (a1 - (List.length a0:Int))) < (0:Int))) then some ⟨o_Z56,((-1:Int),())⟩ else (Z56.l0 R N N a0 (w64 (a1 - (List.length a0:Int))) (0:Int))) := by kernel_rfl
theorem Z54.ev (R:Run) (N:Nat) (a0:vK) (a1:Int):evFn E R sg_Z54 pol_Z54 F_Z54 N [⟨yK,a0⟩,⟨yI,a1⟩] = ((callT R n_Z56 o_Z56 [⟨yK,a0⟩,⟨yI,a1⟩]).bind fun r1 => (bif (decide (r1.1 < (0:Int))) then some ⟨o_Z54,((-1:Int),())⟩ else some ⟨o_Z54,(r1.1,())⟩)) := by kernel_rfl
noncomputable def Z58.l0 (R:Run) (N n:Nat) (a:(List Int)) (b:Int) (e:(List Int)):Option Dv := R.w (some ⟨(.c (.d yL a)::(V.dead::(V.dead::(.c (.arr 7)::(.c (.d yI b)::(zd 17 [])))))),(zo 7 (some (.arr yI e true false false)::(zo 15 [])))⟩) fun st => lC R pol_Z58 3 N [1,1,0,1,0,0] F_Z58 n st (kB R pol_Z58 0 (kS R pol_Z58 6 N [1,1,1] F_Z58 (kTop E sg_Z58 F_Z58)))
theorem Z58.l0_succ (R:Run) (hw:R.ok) (N n:Nat) (a:(List Int)) (b:Int) (c:(List Int)):Z58.l0 R N (n + 1) a b c = (bif (decide (b < (List.length a:Int))) then ((idx? a b).bind fun y4 => ((chk (decide (0 ≤ b) && decide (b < (List.length c:Int)))).bind fun _ => (Z58.l0 R N n a (w64 (b + (1:Int))) (List.set c (Int.toNat b) (y4,()).1)))) else some ⟨o_Z58,(c,())⟩) := (hw _ _).trans (by kernel_rfl)
theorem Z58.ev (R:Run) (N:Nat) (a0:(List Int)):evFn E R sg_Z58 pol_Z58 F_Z58 N [⟨yL,a0⟩] = ((chk (decide (0 ≤ (List.length a0:Int)) && decide ((List.length a0:Int) * 8 ≤ 70368744177664))).bind fun _ => (Z58.l0 R N N a0 (0:Int) (List.replicate (Int.toNat (List.length a0:Int)) (0:Int)))) := by kernel_rfl
noncomputable def Z59.l0 (R:Run) (N n:Nat) (a:vK) (b:Int) (e:vK):Option Dv := R.w (some ⟨(.c (.d yK a)::(V.dead::(V.dead::(.c (.arr 7)::(.c (.d yI b)::(zd 18 [])))))),(zo 7 (some (.arr yL e true false false)::(zo 17 [])))⟩) fun st => lC R pol_Z59 3 N [1,1,0,1,0,0] F_Z59 n st (kB R pol_Z59 0 (kS R pol_Z59 6 N [1,1,1] F_Z59 (kTop E sg_Z59 F_Z59)))
theorem Z59.l0_succ (R:Run) (hw:R.ok) (N n:Nat) (a:vK) (b:Int) (c:vK):Z59.l0 R N (n + 1) a b c = (bif (decide (b < (List.length a:Int))) then ((idx? a b).bind fun y4 => ((callT R n_Z58 o_Z58 [⟨yL,(y4,()).1⟩]).bind fun r5 => ((chk (decide (0 ≤ b) && decide (b < (List.length c:Int)))).bind fun _ => (Z59.l0 R N n a (w64 (b + (1:Int))) (List.set c (Int.toNat b) r5.1))))) else some ⟨o_Z59,(c,())⟩) := (hw _ _).trans (by kernel_rfl)
theorem Z59.ev (R:Run) (N:Nat) (a0:vK):evFn E R sg_Z59 pol_Z59 F_Z59 N [⟨yK,a0⟩] = ((chk (decide (0 ≤ (List.length a0:Int)) && decide ((List.length a0:Int) * 24 ≤ 70368744177664))).bind fun _ => (Z59.l0 R N N a0 (0:Int) (List.replicate (Int.toNat (List.length a0:Int)) ([]:List Int)))) := by kernel_rfl
theorem Z57.ev (R:Run) (N:Nat) (a0:vK):evFn E R sg_Z57 pol_Z57 F_Z57 N [⟨yK,a0⟩] = ((callT R n_Z59 o_Z59 [⟨yK,a0⟩]).bind fun r1 => some ⟨o_Z57,(r1.1,())⟩) := by kernel_rfl
theorem Z85.ev (R:Run) (N:Nat) (a0 a1 a2:Int):evFn E R sg_Z85 pol_Z85 F_Z85 N [⟨yI,a0⟩,⟨yI,a1⟩,⟨yI,a2⟩] = (bif (decide (a0 ≥ a1)) then some ⟨o_Z85,((decide (a0 ≤ a2)),())⟩ else some ⟨o_Z85,(false,())⟩) := by kernel_rfl
noncomputable def Z87.j1 (R:Run) (N a:Nat) (b:(List Int)) (e f g:Int) (h:Bool):Option Dv := R.w (some ⟨(.c (.d yL b)::(.c (.d yI e)::(.c (.d yI f)::(zd 4 (.c (.d yI g)::(zd 29 (.c (.d .bool h)::[]))))))),(zo 41 [])⟩) fun st => eC R pol_Z87 N [1,0,1,0,0,1,0,0,1] F_Z87 st (kB R pol_Z87 1 (kS R pol_Z87 3 N [1,0,1,0,0,1,1] F_Z87 (kL R pol_Z87 2 N [1,0,1,0,0] F_Z87 a (kB R pol_Z87 0 (kS R pol_Z87 6 N [1,1] F_Z87 (kTop E sg_Z87 F_Z87))))))
noncomputable def Z87.l0 (R:Run) (N n:Nat) (a:(List Int)) (b e f:Int):Option Dv := R.w (some ⟨(.c (.d yL a)::(.c (.d yI b)::(.c (.d yI e)::(zd 4 (.c (.d yI f)::(zd 30 [])))))),(zo 41 [])⟩) fun st => lC R pol_Z87 2 N [1,0,1,0,0] F_Z87 n st (kB R pol_Z87 0 (kS R pol_Z87 6 N [1,1] F_Z87 (kTop E sg_Z87 F_Z87)))
theorem Z87.j1_eq (R:Run) (hw:R.ok) (N a:Nat) (b:(List Int)) (c d e:Int) (f:Bool):Z87.j1 R N a b c d e f = (bif f then some ⟨o_Z87,(false,())⟩ else (Z87.l0 R N a b c d (w64 (e + (1:Int))))) := (hw _ _).trans (by kernel_rfl)
theorem Z87.l0_succ (R:Run) (hw:R.ok) (N n:Nat) (a:(List Int)) (b c d:Int):Z87.l0 R N (n + 1) a b c d = (bif (decide (d < (List.length a:Int))) then ((idx? a d).bind fun y5 => ((callT R n_Z85 o_Z85 [⟨yI,(y5,()).1⟩,⟨yI,b⟩,⟨yI,c⟩]).bind fun r6 => (bif (!r6.1) then (Z87.j1 R N n a b c d true) else (bif (decide (d > (0:Int))) then ((idx? a (w64 (d - (1:Int)))).bind fun y16 => ((idx? a d).bind fun y17 => (Z87.j1 R N n a b c d (decide ((y16,()).1 ≥ (y17,()).1))))) else (Z87.j1 R N n a b c d false))))) else some ⟨o_Z87,(true,())⟩) := (hw _ _).trans (by kernel_rfl)
theorem Z87.ev (R:Run) (N:Nat) (a0:(List Int)) (a1 a2:Int):evFn E R sg_Z87 pol_Z87 F_Z87 N [⟨yL,a0⟩,⟨yI,a1⟩,⟨yI,a2⟩] = (Z87.l0 R N N a0 a1 a2 (0:Int)) := by kernel_rfl
theorem Z99.ev (R:Run) (N:Nat) (a0:(List Int)):evFn E R sg_Z99 pol_Z99 F_Z99 N [⟨yL,a0⟩] = ((callT R n_Z85 o_Z85 [⟨yI,(List.length a0:Int)⟩,⟨yI,(1:Int)⟩,⟨yI,(4:Int)⟩]).bind fun r1 => (bif r1.1 then ((callT R n_Z87 o_Z87 [⟨yL,a0⟩,⟨yI,(0:Int)⟩,⟨yI,(9:Int)⟩]).bind fun r2 => some ⟨o_Z99,(r2.1,())⟩) else some ⟨o_Z99,(false,())⟩)) := by kernel_rfl
noncomputable def Z93.l0 (R:Run) (N n:Nat) (a b:(List Int)) (e:Int):Option Dv := R.w (some ⟨(.c (.d yL a)::(.c (.d yL b)::(zd 3 (.c (.d yI e)::(zd 34 []))))),(zo 42 [])⟩) fun st => lC R pol_Z93 4 N [1,1,0,1,0,0] F_Z93 n st (kB R pol_Z93 0 (kS R pol_Z93 8 N [1,1,1] F_Z93 (kTop E sg_Z93 F_Z93)))
theorem Z93.l0_succ (R:Run) (hw:R.ok) (N n:Nat) (a b:(List Int)) (c:Int):Z93.l0 R N (n + 1) a b c = (bif (decide (c < (List.length a:Int))) then ((idx? a c).bind fun y4 => ((idx? b c).bind fun y5 => (bif ((y4,()).1 != (y5,()).1) then ((idx? a c).bind fun y6 => ((idx? b c).bind fun y7 => some ⟨o_Z93,((decide ((y6,()).1 < (y7,()).1)),())⟩)) else (Z93.l0 R N n a b (w64 (c + (1:Int))))))) else some ⟨o_Z93,(false,())⟩) := (hw _ _).trans (by kernel_rfl)
theorem Z93.ev (R:Run) (N:Nat) (a0 a1:(List Int)):evFn E R sg_Z93 pol_Z93 F_Z93 N [⟨yL,a0⟩,⟨yL,a1⟩] = (bif ((List.length a0:Int) != (List.length a1:Int)) then some ⟨o_Z93,((decide ((List.length a0:Int) < (List.length a1:Int))),())⟩ else (Z93.l0 R N N a0 a1 (0:Int))) := by kernel_rfl
theorem Z86.ev (R:Run) (N:Nat) (a0:(List Int)):evFn E R sg_Z86 pol_Z86 F_Z86 N [⟨yL,a0⟩] = ((chk (decide ((List.length ([]:List Int) + List.length a0) * 8 ≤ 70368744177664))).bind fun _ => some ⟨o_Z86,((([]:List Int) ++ a0),())⟩) := by kernel_rfl
theorem Z94.ev (R:Run) (N:Nat) (a0:(List Int)) (a1:Int):evFn E R sg_Z94 pol_Z94 F_Z94 N [⟨yL,a0⟩,⟨yI,a1⟩] = ((chk (decide (0 ≤ a1) && decide (a1 ≤ (List.length a0:Int)))).bind fun _ => ((callT R n_Z86 o_Z86 [⟨yL,(List.take (Int.toNat a1) a0)⟩]).bind fun r1 => ((chk (decide (0 ≤ (w64 (a1 + (1:Int)))) && decide ((w64 (a1 + (1:Int))) ≤ (List.length a0:Int)))).bind fun _ => ((chk (decide ((List.length r1.1 + List.length (List.drop (Int.toNat (w64 (a1 + (1:Int)))) a0)) * 8 ≤ 70368744177664))).bind fun _ => some ⟨o_Z94,((r1.1 ++ (List.drop (Int.toNat (w64 (a1 + (1:Int)))) a0)),())⟩)))) := by kernel_rfl
noncomputable def Z88.l0 (R:Run) (N n:Nat) (a b:(List Int)) (e:Int):Option Dv := R.w (some ⟨(.c (.d yL a)::(.c (.d yL b)::(zd 3 (.c (.d yI e)::(zd 20 []))))),(zo 28 [])⟩) fun st => lC R pol_Z88 4 N [1,1,0,1,0,0] F_Z88 n st (kB R pol_Z88 0 (kS R pol_Z88 8 N [1,1,1] F_Z88 (kTop E sg_Z88 F_Z88)))
theorem Z88.l0_succ (R:Run) (hw:R.ok) (N n:Nat) (a b:(List Int)) (c:Int):Z88.l0 R N (n + 1) a b c = (bif (decide (c < (List.length a:Int))) then ((idx? a c).bind fun y4 => ((idx? b c).bind fun y5 => (bif ((y4,()).1 != (y5,()).1) then some ⟨o_Z88,(false,())⟩ else (Z88.l0 R N n a b (w64 (c + (1:Int))))))) else some ⟨o_Z88,(true,())⟩) := (hw _ _).trans (by kernel_rfl)
theorem Z88.ev (R:Run) (N:Nat) (a0 a1:(List Int)):evFn E R sg_Z88 pol_Z88 F_Z88 N [⟨yL,a0⟩,⟨yL,a1⟩] = (bif ((List.length a0:Int) != (List.length a1:Int)) then some ⟨o_Z88,(false,())⟩ else (Z88.l0 R N N a0 a1 (0:Int))) := by kernel_rfl
noncomputable def Z96.l0 (R:Run) (N n:Nat) (a:(vK × Unit)) (b:(List Int)) (e:Int):Option Dv := R.w (some ⟨(.c (.ip (.cons yK .nil) a 0)::(.c (.d yL b)::(zd 3 (.c (.d yI e)::(zd 19 []))))),(zo 27 [])⟩) fun st => lC R pol_Z96 2 N [1,0,1,0,0] F_Z96 n st (kB R pol_Z96 0 (kS R pol_Z96 6 N [1,1] F_Z96 (kTop E sg_Z96 F_Z96)))
theorem Z96.l0_succ (R:Run) (hw:R.ok) (N n:Nat) (a:(vK × Unit)) (b:(List Int)) (c:Int):Z96.l0 R N (n + 1) a b c = (bif (decide (c < (List.length a.1:Int))) then ((idx? a.1 c).bind fun y4 => ((callT R n_Z88 o_Z88 [⟨yL,(y4,()).1⟩,⟨yL,b⟩]).bind fun r5 => (bif r5.1 then some ⟨o_Z96,(c,())⟩ else (Z96.l0 R N n a b (w64 (c + (1:Int))))))) else some ⟨o_Z96,((-1:Int),())⟩) := (hw _ _).trans (by kernel_rfl)
theorem Z96.ev (R:Run) (N:Nat) (a0:(vK × Unit)) (a1:(List Int)):evFn E R sg_Z96 pol_Z96 F_Z96 N [⟨(.ptr (.cons yK .nil)),a0⟩,⟨yL,a1⟩] = (Z96.l0 R N N a0 a1 (0:Int)) := by kernel_rfl
noncomputable def Z98.j3 (R:Run) (N a b:Nat) (e:(vK × Unit)) (f:Int) (g:(List Int)) (h:Int) (i:Bool):Option Dv := R.w (some ⟨(.c (.ip (.cons yK .nil) e 0)::(V.dead::(V.dead::(.c (.d yI f)::(.c (.d yL g)::(.c (.d yI h)::(zd 50 (.c (.d .bool i)::(zd 8 []))))))))),(zo 66 [])⟩) fun st => eC R pol_Z98 N [1,1,0,1,0,0,1,0,0,1,1,1,0,0,0,1] F_Z98 st (kS R pol_Z98 12 N [1,1,0,1,0,0,1,0,0,1,1,1,0,0,1] F_Z98 (kL R pol_Z98 10 N [1,1,0,1,0,0,1,0,0,1,1,1,0,0] F_Z98 b (kB R pol_Z98 2 (kB R pol_Z98 1 (q0_0 R N (q0_3 R N a (kB R pol_Z98 0 (q0_1 R N (kTop E sg_Z98 F_Z98)))))))))
noncomputable def Z98.l2 (R:Run) (N a n:Nat) (b:(vK × Unit)) (e:Int) (f:(List Int)) (g:Int):Option Dv := R.w (some ⟨(.c (.ip (.cons yK .nil) b 0)::(V.dead::(V.dead::(.c (.d yI e)::(.c (.d yL f)::(.c (.d yI g)::(zd 59 []))))))),(zo 66 [])⟩) fun st => lC R pol_Z98 10 N [1,1,0,1,0,0,1,0,0,1,1,1,0,0] F_Z98 n st (kB R pol_Z98 2 (kB R pol_Z98 1 (q0_0 R N (q0_3 R N a (kB R pol_Z98 0 (q0_1 R N (kTop E sg_Z98 F_Z98)))))))
noncomputable def Z98.j1 (R:Run) (N a:Nat) (b:(vK × Unit)) (e:Int) (f:(List Int)) (g:Bool):Option Dv := R.w (some ⟨(.c (.ip (.cons yK .nil) b 0)::(V.dead::(V.dead::(.c (.d yI e)::(.c (.d yL f)::(zd 42 (.c (.d .bool g)::(zd 17 [])))))))),(zo 66 [])⟩) fun st => eC R pol_Z98 N [1,1,0,1,0,0,1,0,0,1,0,1] F_Z98 st (kS R pol_Z98 9 N [1,1,0,1,0,0,1,0,0,1,1] F_Z98 (kB R pol_Z98 1 (q0_0 R N (q0_3 R N a (kB R pol_Z98 0 (q0_1 R N (kTop E sg_Z98 F_Z98)))))))
noncomputable def Z98.l0 (R:Run) (N n:Nat) (a:(vK × Unit)) (b:Int):Option Dv := R.w (some ⟨(.c (.ip (.cons yK .nil) a 0)::(V.dead::(V.dead::(.c (.d yI b)::(zd 61 []))))),(zo 66 [])⟩) fun st => lC R pol_Z98 4 N [1,1,0,1,0,0] F_Z98 n st (kB R pol_Z98 0 (q0_1 R N (kTop E sg_Z98 F_Z98)))
theorem Z98.j3_eq (R:Run) (hw:R.ok) (N a b:Nat) (c:(vK × Unit)) (d:Int) (e:(List Int)) (f:Int) (g:Bool):Z98.j3 R N a b c d e f g = (bif g then ((callT R n_Z94 o_Z94 [⟨yL,e⟩,⟨yI,f⟩]).bind fun r18 => ((callT R n_Z96 o_Z96 [⟨(.ptr (.cons yK .nil)),c⟩,⟨yL,r18.1⟩]).bind fun r19 => (bif (decide (r19.1 < (0:Int))) then some ⟨o_Z98,(false,())⟩ else (Z98.l2 R N a b c d e (w64 (f + (1:Int))))))) else (Z98.l0 R N a c (w64 (d + (1:Int))))) := (hw _ _).trans (by kernel_rfl)
theorem Z98.l2_succ (R:Run) (hw:R.ok) (N a n:Nat) (b:(vK × Unit)) (c:Int) (d:(List Int)) (e:Int):Z98.l2 R N a (n + 1) b c d e = (bif (decide (e < (List.length d:Int))) then (Z98.j3 R N a n b c d e (decide ((List.length d:Int) > (1:Int)))) else (Z98.j3 R N a n b c d e false)) := (hw _ _).trans (by kernel_rfl)
theorem Z98.j1_eq (R:Run) (hw:R.ok) (N a:Nat) (b:(vK × Unit)) (c:Int) (d:(List Int)) (e:Bool):Z98.j1 R N a b c d e = (bif e then some ⟨o_Z98,(false,())⟩ else (Z98.l2 R N a N b c d (0:Int))) := (hw _ _).trans (by kernel_rfl)
theorem Z98.l0_succ (R:Run) (hw:R.ok) (N n:Nat) (a:(vK × Unit)) (b:Int):Z98.l0 R N (n + 1) a b = (bif (decide (b < (List.length a.1:Int))) then ((idx? a.1 b).bind fun y3 => ((callT R n_Z99 o_Z99 [⟨yL,(y3,()).1⟩]).bind fun r4 => (bif (!r4.1) then (Z98.j1 R N n a b ((y3,()).1) true) else (bif (decide (b > (0:Int))) then ((idx? a.1 (w64 (b - (1:Int)))).bind fun y31 => ((callT R n_Z93 o_Z93 [⟨yL,(y31,()).1⟩,⟨yL,(y3,()).1⟩]).bind fun r32 => (Z98.j1 R N n a b ((y3,()).1) (!r32.1)))) else (Z98.j1 R N n a b ((y3,()).1) false))))) else some ⟨o_Z98,(true,())⟩) := (hw _ _).trans (by kernel_rfl)
theorem Z98.ev (R:Run) (N:Nat) (a0:(vK × Unit)):evFn E R sg_Z98 pol_Z98 F_Z98 N [⟨(.ptr (.cons yK .nil)),a0⟩] = (bif (decide ((List.length a0.1:Int) > (48:Int))) then some ⟨o_Z98,(false,())⟩ else (Z98.l0 R N N a0 (0:Int))) := by kernel_rfl
noncomputable def Z89.l0 (R:Run) (N n:Nat) (a b:Int):Option Dv := R.w (some ⟨(.c (.d yI a)::(V.dead::(V.dead::(.c (.d yI b)::(zd 14 []))))),(zo 19 [])⟩) fun st => lC R pol_Z89 4 N [1,1,0,1,0,0] F_Z89 n st (kB R pol_Z89 0 (kS R pol_Z89 8 N [1,1,1] F_Z89 (kTop E sg_Z89 F_Z89)))
theorem Z89.l0_succ (R:Run) (hw:R.ok) (N n:Nat) (a b:Int):Z89.l0 R N (n + 1) a b = (bif (decide ((w64 (b * b)) ≤ a)) then ((chk (b != 0)).bind fun _ => (bif ((Int.tmod a b) == (0:Int)) then some ⟨o_Z89,(false,())⟩ else (Z89.l0 R N n a (w64 (b + (1:Int)))))) else some ⟨o_Z89,(true,())⟩) := (hw _ _).trans (by kernel_rfl)
theorem Z89.ev (R:Run) (N:Nat) (a0:Int):evFn E R sg_Z89 pol_Z89 F_Z89 N [⟨yI,a0⟩] = ((callT R n_Z85 o_Z85 [⟨yI,a0⟩,⟨yI,(2:Int)⟩,⟨yI,(251:Int)⟩]).bind fun r1 => (bif (!r1.1) then some ⟨o_Z89,(false,())⟩ else (Z89.l0 R N N a0 (2:Int)))) := by kernel_rfl
theorem Z83.ev (R:Run) (N:Nat) (a0:Int):evFn E R sg_Z83 pol_Z83 F_Z83 N [⟨yI,a0⟩] = ((callT R n_Z89 o_Z89 [⟨yI,a0⟩]).bind fun r1 => some ⟨o_Z83,(r1.1,())⟩) := by kernel_rfl
theorem Z101.ev (R:Run) (N:Nat) (a0:(vK × Unit)) (a1:Int):evFn E R sg_Z101 pol_Z101 F_Z101 N [⟨(.ptr (.cons yK .nil)),a0⟩,⟨yI,a1⟩] = ((callT R n_Z98 o_Z98 [⟨(.ptr (.cons yK .nil)),a0⟩]).bind fun r1 => (bif r1.1 then ((callT R n_Z83 o_Z83 [⟨yI,a1⟩]).bind fun r2 => some ⟨o_Z101,(r2.1,())⟩) else some ⟨o_Z101,(false,())⟩)) := by kernel_rfl
noncomputable def Z97.l0 (R:Run) (N n:Nat) (a:(vK × Unit)) (b e:Int) (f:(List Int)):Option Dv := R.w (some ⟨(.c (.ip (.cons yK .nil) a 0)::(.c (.d yI b)::(zd 3 (.c (.arr 7)::(.c (.d yI e)::(zd 26 [])))))),(zo 7 (some (.arr yI f true false false)::(zo 27 [])))⟩) fun st => lC R pol_Z97 3 N [1,1,0,1,0,0] F_Z97 n st (kB R pol_Z97 0 (kS R pol_Z97 7 N [1,1,1] F_Z97 (kTop E sg_Z97 F_Z97)))
theorem Z97.l0_succ (R:Run) (hw:R.ok) (N n:Nat) (a:(vK × Unit)) (b c:Int) (d:(List Int)):Z97.l0 R N (n + 1) a b c d = (bif (decide (c < (List.length a.1:Int))) then ((idx? a.1 c).bind fun y5 => (bif ((List.length (y5,()).1:Int) == (w64 (b + (1:Int)))) then ((chk (decide ((List.length d + List.length [c]) * 8 ≤ 70368744177664))).bind fun _ => (Z97.l0 R N n a b (w64 (c + (1:Int))) (d ++ [c]))) else (Z97.l0 R N n a b (w64 (c + (1:Int))) d))) else some ⟨o_Z97,(d,())⟩) := (hw _ _).trans (by kernel_rfl)
theorem Z97.ev (R:Run) (N:Nat) (a0:(vK × Unit)) (a1:Int):evFn E R sg_Z97 pol_Z97 F_Z97 N [⟨(.ptr (.cons yK .nil)),a0⟩,⟨yI,a1⟩] = (Z97.l0 R N N a0 a1 (0:Int) ([]:List Int)) := by kernel_rfl
noncomputable def Z90.l0 (R:Run) (N n:Nat) (a:(List Int)) (b e f:Int):Option Dv := R.w (some ⟨(.c (.d yL a)::(.c (.d yI b)::(.c (.d yI e)::(zd 4 (.c (.d yI f)::(zd 18 [])))))),(zo 29 [])⟩) fun st => lC R pol_Z90 2 N [1,0,1,0,0] F_Z90 n st (kB R pol_Z90 0 (kS R pol_Z90 6 N [1,1] F_Z90 (kTop E sg_Z90 F_Z90)))
theorem Z90.l0_succ (R:Run) (hw:R.ok) (N n:Nat) (a:(List Int)) (b c d:Int):Z90.l0 R N (n + 1) a b c d = (bif (decide (d < (List.length a:Int))) then ((idx? a d).bind fun y5 => ((callT R n_Z85 o_Z85 [⟨yI,(y5,()).1⟩,⟨yI,(0:Int)⟩,⟨yI,(w64 (c - (1:Int)))⟩]).bind fun r6 => (bif (!r6.1) then some ⟨o_Z90,(false,())⟩ else (Z90.l0 R N n a b c (w64 (d + (1:Int))))))) else some ⟨o_Z90,(((List.length a:Int) == b),())⟩) := (hw _ _).trans (by kernel_rfl)
theorem Z90.ev (R:Run) (N:Nat) (a0:(List Int)) (a1 a2:Int):evFn E R sg_Z90 pol_Z90 F_Z90 N [⟨yL,a0⟩,⟨yI,a1⟩,⟨yI,a2⟩] = (Z90.l0 R N N a0 a1 a2 (0:Int)) := by kernel_rfl
noncomputable def Z84.l0 (R:Run) (N n:Nat) (a:(List Int)) (b e:Int):Option Dv := R.w (some ⟨(.c (.d yL a)::(.c (.d yI b)::(zd 3 (.c (.d yI e)::(zd 12 []))))),(zo 20 [])⟩) fun st => lC R pol_Z84 2 N [1,0,1,0,0] F_Z84 n st (kB R pol_Z84 0 (kS R pol_Z84 6 N [1,1] F_Z84 (kTop E sg_Z84 F_Z84)))
theorem Z84.l0_succ (R:Run) (hw:R.ok) (N n:Nat) (a:(List Int)) (b c:Int):Z84.l0 R N (n + 1) a b c = (bif (decide (c < (List.length a:Int))) then ((idx? a c).bind fun y4 => (bif ((y4,()).1 == b) then some ⟨o_Z84,(true,())⟩ else (Z84.l0 R N n a b (w64 (c + (1:Int)))))) else some ⟨o_Z84,(false,())⟩) := (hw _ _).trans (by kernel_rfl)
theorem Z84.ev (R:Run) (N:Nat) (a0:(List Int)) (a1:Int):evFn E R sg_Z84 pol_Z84 F_Z84 N [⟨yL,a0⟩,⟨yI,a1⟩] = (Z84.l0 R N N a0 a1 (0:Int)) := by kernel_rfl
noncomputable def Z100.l0 (R:Run) (N n:Nat) (a:(vK × Unit)) (b e:Int) (f:vK):Option Dv := R.w (some ⟨(.c (.ip (.cons yK .nil) a 0)::(.c (.d yI b)::(V.dead::(V.dead::(.c (.box 4 0)::(.c (.box 5 0)::(.c (.d yI e)::(zd 36 [])))))))),(zo 4 (some (.box [.nils yL] false false)::(some (.box [.arr 7] false false)::(none::(some (.arr yL f true false false)::(zo 38 []))))))⟩) fun st => lC R pol_Z100 3 N [1,1,0,1,0,0] F_Z100 n st (kB R pol_Z100 0 (kS R pol_Z100 7 N [1,1,1] F_Z100 (kTop E sg_Z100 F_Z100)))
theorem Z100.l0_succ (R:Run) (hw:R.ok) (N n:Nat) (a:(vK × Unit)) (b c:Int) (d:vK):Z100.l0 R N (n + 1) a b c d = (bif (decide (c < (List.length a.1:Int))) then ((idx? a.1 c).bind fun y5 => (bif (decide ((List.length (y5,()).1:Int) ≤ (w64 (b + (1:Int))))) then ((idx? a.1 c).bind fun y6 => ((callT R n_Z86 o_Z86 [⟨yL,(y6,()).1⟩]).bind fun r7 => ((chk (decide ((List.length d + List.length [r7.1]) * 24 ≤ 70368744177664))).bind fun _ => (Z100.l0 R N n a b (w64 (c + (1:Int))) (d ++ [r7.1]))))) else (Z100.l0 R N n a b (w64 (c + (1:Int))) d))) else some ⟨o_Z100,(d,())⟩) := (hw _ _).trans (by kernel_rfl)
theorem Z100.ev (R:Run) (N:Nat) (a0:(vK × Unit)) (a1:Int):evFn E R sg_Z100 pol_Z100 F_Z100 N [⟨(.ptr (.cons yK .nil)),a0⟩,⟨yI,a1⟩] = (Z100.l0 R N N a0 a1 (0:Int) ([]:List (List Int))) := by kernel_rfl
noncomputable def Z95.j1 (R:Run) (N a:Nat) (b:(vK × Unit)) (e:(List Int)) (f:Int) (g:Bool) (h:(List Int)):Option Dv := R.w (some ⟨(.c (.ip (.cons yK .nil) b 0)::(zd 4 (.c (.d yL e)::(.c (.arr 15)::(.c (.d yI f)::(zd 16 (.c (.d .bool g)::(zd 11 [])))))))),(zo 15 (some (.arr yI h true false false)::(zo 22 [])))⟩) fun st => eC R pol_Z95 N [1,1,1,0,1,0,0,0,1] F_Z95 st (kS R pol_Z95 6 N [1,1,1,0,1,0,0,1] F_Z95 (kL R pol_Z95 4 N [1,1,1,0,1,0,0] F_Z95 a (kB R pol_Z95 0 (kS R pol_Z95 7 N [1,1,1,1] F_Z95 (kTop E sg_Z95 F_Z95)))))
noncomputable def Z95.l0 (R:Run) (N n:Nat) (a:(vK × Unit)) (b:(List Int)) (e:Int) (f:(List Int)):Option Dv := R.w (some ⟨(.c (.ip (.cons yK .nil) a 0)::(zd 4 (.c (.d yL b)::(.c (.arr 15)::(.c (.d yI e)::(zd 28 [])))))),(zo 15 (some (.arr yI f true false false)::(zo 22 [])))⟩) fun st => lC R pol_Z95 4 N [1,1,1,0,1,0,0] F_Z95 n st (kB R pol_Z95 0 (kS R pol_Z95 7 N [1,1,1,1] F_Z95 (kTop E sg_Z95 F_Z95)))
theorem Z95.j1_eq (R:Run) (hw:R.ok) (N a:Nat) (b:(vK × Unit)) (c:(List Int)) (d:Int) (e:Bool) (f:(List Int)):Z95.j1 R N a b c d e f = (bif e then ((callT R n_Z94 o_Z94 [⟨yL,c⟩,⟨yI,d⟩]).bind fun r11 => ((callT R n_Z96 o_Z96 [⟨(.ptr (.cons yK .nil)),b⟩,⟨yL,r11.1⟩]).bind fun r12 => ((chk (decide ((List.length f + List.length [r12.1]) * 8 ≤ 70368744177664))).bind fun _ => (Z95.l0 R N a b c (w64 (d + (1:Int))) (f ++ [r12.1]))))) else some ⟨o_Z95,(f,())⟩) := (hw _ _).trans (by kernel_rfl)
theorem Z95.l0_succ (R:Run) (hw:R.ok) (N n:Nat) (a:(vK × Unit)) (b:(List Int)) (c:Int) (d:(List Int)):Z95.l0 R N (n + 1) a b c d = (bif (decide (c < (List.length b:Int))) then (Z95.j1 R N n a b c (decide ((List.length b:Int) > (1:Int))) d) else (Z95.j1 R N n a b c false d)) := (hw _ _).trans (by kernel_rfl)
theorem Z95.ev (R:Run) (N:Nat) (a0:(vK × Unit)) (a1:Int):evFn E R sg_Z95 pol_Z95 F_Z95 N [⟨(.ptr (.cons yK .nil)),a0⟩,⟨yI,a1⟩] = ((idx? a0.1 a1).bind fun y1 => (Z95.l0 R N N a0 ((y1,()).1) (0:Int) ([]:List Int))) := by kernel_rfl
theorem Z92.ev (R:Run) (N:Nat) (a0 a1 a2:Int):evFn E R sg_Z92 pol_Z92 F_Z92 N [⟨yI,a0⟩,⟨yI,a1⟩,⟨yI,a2⟩] = ((chk (decide (0 ≤ (w64 (a1 * a2))) && decide ((w64 (a1 * a2)) * 8 ≤ 70368744177664))).bind fun _ => some ⟨o_Z92,(a0,a1,a2,(List.replicate (Int.toNat (w64 (a1 * a2))) (0:Int)),())⟩) := by kernel_rfl
noncomputable def Z103.l1 (R:Run) (N a n:Nat) (b:(vK × Unit)) (e:Int) (f:(List Int)) (g:Int) (h:(List Int)) (i j k:Int) (l:vN) (m:vK) (o:(List Int)):Option Dv := R.w (some ⟨(.c (.ip (.cons yK .nil) b 0)::(.c (.d yI e)::(.c (.d yL f)::(zd 3 (.c (.box 6 0)::(.c (.box 7 0)::(.c (.d yI g)::(.c (.d yL h)::(.c (.d yI i)::(zd 44 [])))))))))),(zo 6 (some (.box [.nils yL,.d yI j,.nils yI,.nils (.st yM)] false false)::(some (.box [.arr 59,.d yI k,.arr 60,.arr 16] false false)::(zo 8 (some (.arr (.st yM) l true false false)::(zo 42 (some (.arr yL m true false false)::(some (.arr yI o true false false)::[]))))))))⟩) fun st => lC R pol_Z103 7 N [1,1,0,1,0,0,1,0,0,1,1,0,0] F_Z103 n st (kB R pol_Z103 2 (kB R pol_Z103 1 (kS R pol_Z103 4 N [1,1,0,1,0,0,1,1] F_Z103 (kL R pol_Z103 3 N [1,1,0,1,0,0] F_Z103 a (kB R pol_Z103 0 (kS R pol_Z103 10 N [1,1,1] F_Z103 (kTop E sg_Z103 F_Z103)))))))
noncomputable def Z103.l0 (R:Run) (N n:Nat) (a:(vK × Unit)) (b:Int) (e:(List Int)) (f g h:Int) (i:vN) (j:vK) (k:(List Int)):Option Dv := R.w (some ⟨(.c (.ip (.cons yK .nil) a 0)::(.c (.d yI b)::(.c (.d yL e)::(zd 3 (.c (.box 6 0)::(.c (.box 7 0)::(.c (.d yI f)::(zd 46 [])))))))),(zo 6 (some (.box [.nils yL,.d yI g,.nils yI,.nils (.st yM)] false false)::(some (.box [.arr 59,.d yI h,.arr 60,.arr 16] false false)::(zo 8 (some (.arr (.st yM) i true false false)::(zo 42 (some (.arr yL j true false false)::(some (.arr yI k true false false)::[]))))))))⟩) fun st => lC R pol_Z103 3 N [1,1,0,1,0,0] F_Z103 n st (kB R pol_Z103 0 (kS R pol_Z103 10 N [1,1,1] F_Z103 (kTop E sg_Z103 F_Z103)))
theorem Z103.l1_succ (R:Run) (hw:R.ok) (N a n:Nat) (b:(vK × Unit)) (c:Int) (d:(List Int)) (e:Int) (f:(List Int)) (g h i:Int) (j:vN) (k:vK) (l:(List Int)):Z103.l1 R N a (n + 1) b c d e f g h i j k l = (bif (decide (g < (List.length f:Int))) then ((idx? d e).bind fun y24 => ((idx? f g).bind fun y25 => ((idx? d (y25,()).1).bind fun y26 => ((callT R n_Z92 o_Z92 [⟨yI,c⟩,⟨yI,(y24,()).1⟩,⟨yI,(y26,()).1⟩]).bind fun r27 => ((chk (decide ((List.length j + List.length [(r27.1,r27.2.1,r27.2.2.1,r27.2.2.2.1,())]) * 48 ≤ 70368744177664))).bind fun _ => (Z103.l1 R N a n b c d e f (w64 (g + (1:Int))) h i (j ++ [(r27.1,r27.2.1,r27.2.2.1,r27.2.2.2.1,())]) k l)))))) else (Z103.l0 R N a b c d (w64 (e + (1:Int))) h i j k l)) := (hw _ _).trans (by kernel_rfl)
theorem Z103.l0_succ (R:Run) (hw:R.ok) (N n:Nat) (a:(vK × Unit)) (b:Int) (c:(List Int)) (d e f:Int) (g:vN) (h:vK) (i:(List Int)):Z103.l0 R N (n + 1) a b c d e f g h i = (bif (decide (d < (List.length a.1:Int))) then ((callT R n_Z95 o_Z95 [⟨(.ptr (.cons yK .nil)),a⟩,⟨yI,d⟩]).bind fun r12 => (Z103.l1 R N n N a b c d r12.1 (0:Int) e f g h i)) else some ⟨o_Z103,(h,f,i,g,())⟩) := (hw _ _).trans (by kernel_rfl)
theorem Z103.ev (R:Run) (N:Nat) (a0:(vK × Unit)) (a1:Int) (a2:(List Int)):evFn E R sg_Z103 pol_Z103 F_Z103 N [⟨(.ptr (.cons yK .nil)),a0⟩,⟨yI,a1⟩,⟨yL,a2⟩] = ((callT R n_Z100 o_Z100 [⟨(.ptr (.cons yK .nil)),a0⟩,⟨yI,(3:Int)⟩]).bind fun r1 => ((callT R n_Z86 o_Z86 [⟨yL,a2⟩]).bind fun r2 => (Z103.l0 R N N a0 a1 a2 (0:Int) (0:Int) a1 ([]:List vM) r1.1 r2.1))) := by kernel_rfl
noncomputable def Z91.l0 (R:Run) (N n:Nat) (a b e f g h i j:Int) (k:(List Int)):Option Dv := R.w (some ⟨(V.dead::(.c (.d yI a)::(V.dead::(V.dead::(.c (.box 4 0)::(.c (.box 5 0)::(.c (.d yI b)::(zd 18 [])))))))),(zo 4 (some (.box [.d yI e,.d yI f,.d yI g,.nils yI] false false)::(some (.box [.d yI h,.d yI i,.d yI j,.arr 27] false false)::(zo 21 (some (.arr yI k true false false)::[])))))⟩) fun st => lC R pol_Z91 3 N [1,1,0,1,0,0] F_Z91 n st (kB R pol_Z91 0 (kS R pol_Z91 6 N [1,1,1] F_Z91 (kTop E sg_Z91 F_Z91)))
theorem Z91.l0_succ (R:Run) (hw:R.ok) (N n:Nat) (a b c d e f g h:Int) (i:(List Int)):Z91.l0 R N (n + 1) a b c d e f g h i = (bif (decide (b < a)) then ((chk (decide (0 ≤ (w64 ((w64 (b * a)) + b))) && decide ((w64 ((w64 (b * a)) + b)) < (List.length i:Int)))).bind fun _ => (Z91.l0 R N n a (w64 (b + (1:Int))) c d e f g h (List.set i (Int.toNat (w64 ((w64 (b * a)) + b))) (1:Int)))) else some ⟨o_Z91,(f,g,h,i,())⟩) := (hw _ _).trans (by kernel_rfl)
theorem Z91.ev (R:Run) (N:Nat) (a0 a1:Int):evFn E R sg_Z91 pol_Z91 F_Z91 N [⟨yI,a0⟩,⟨yI,a1⟩] = ((callT R n_Z92 o_Z92 [⟨yI,a0⟩,⟨yI,a1⟩,⟨yI,a1⟩]).bind fun r1 => (Z91.l0 R N N a1 (0:Int) (0:Int) (0:Int) (0:Int) r1.1 r1.2.1 r1.2.2.1 r1.2.2.2.1)) := by kernel_rfl
noncomputable def Z102.l1 (R:Run) (N n:Nat) (a b e f g:Int) (h:vN) (i:vK) (j:(List Int)):Option Dv := R.w (some ⟨(V.dead::(.c (.d yI a)::(.c (.d yI b)::(zd 3 (.c (.box 6 0)::(V.dead::(V.dead::(.c (.box 9 0)::(.c (.d yI e)::(zd 33 [])))))))))),(zo 6 (some (.box [.nils yL,.d yI f,.nils yI,.nils (.st yM)] false false)::(none::(none::(some (.box [.arr 49,.d yI g,.arr 50,.arr 47] false false)::(zo 37 (some (.arr (.st yM) h true false false)::(none::(some (.arr yL i true false false)::(some (.arr yI j true false false)::[]))))))))))⟩) fun st => lC R pol_Z102 8 N [1,1,1,1,0,1,0,0] F_Z102 n st (kB R pol_Z102 2 (kS R pol_Z102 11 N [1,1,1,1,1] F_Z102 (kTop E sg_Z102 F_Z102)))
noncomputable def Z102.l0 (R:Run) (N n:Nat) (a:(vK × Unit)) (b e f g:Int) (h:(List Int)):Option Dv := R.w (some ⟨(.c (.ip (.cons yK .nil) a 0)::(.c (.d yI b)::(.c (.d yI e)::(zd 3 (.c (.box 6 0)::(.c (.arr 11)::(.c (.d yI f)::(zd 35 [])))))))),(zo 6 (some (.box [.nils yL,.d yI g,.nils yI,.nils (.st yM)] false false)::(zo 4 (some (.arr yI h true false false)::(zo 39 [])))))⟩) fun st => lC R pol_Z102 3 N [1,1,0,1,0,0] F_Z102 n st (kB R pol_Z102 0 (kS R pol_Z102 6 N [1,1,1] F_Z102 (kTop E sg_Z102 F_Z102)))
theorem Z102.l1_succ (R:Run) (hw:R.ok) (N n:Nat) (a b c d e:Int) (f:vN) (g:vK) (h:(List Int)):Z102.l1 R N (n + 1) a b c d e f g h = (bif (decide (c < (List.length f:Int))) then ((callT R n_Z91 o_Z91 [⟨yI,a⟩,⟨yI,b⟩]).bind fun r22 => ((chk (decide (0 ≤ c) && decide (c < (List.length f:Int)))).bind fun _ => (Z102.l1 R N n a b (w64 (c + (1:Int))) d e (List.set f (Int.toNat c) (r22.1,r22.2.1,r22.2.2.1,r22.2.2.2.1,())) g h))) else some ⟨o_Z102,(g,e,h,f,())⟩) := (hw _ _).trans (by kernel_rfl)
theorem Z102.l0_succ (R:Run) (hw:R.ok) (N n:Nat) (a:(vK × Unit)) (b c d e:Int) (f:(List Int)):Z102.l0 R N (n + 1) a b c d e f = (bif (decide (d < (List.length a.1:Int))) then ((chk (decide ((List.length f + List.length [c]) * 8 ≤ 70368744177664))).bind fun _ => (Z102.l0 R N n a b c (w64 (d + (1:Int))) e (f ++ [c]))) else ((callT R n_Z103 o_Z103 [⟨(.ptr (.cons yK .nil)),a⟩,⟨yI,b⟩,⟨yL,f⟩]).bind fun r13 => (Z102.l1 R N N b c (0:Int) e r13.2.1 r13.2.2.2.1 r13.1 r13.2.2.1))) := (hw _ _).trans (by kernel_rfl)
theorem Z102.ev (R:Run) (N:Nat) (a0:(vK × Unit)) (a1 a2:Int):evFn E R sg_Z102 pol_Z102 F_Z102 N [⟨(.ptr (.cons yK .nil)),a0⟩,⟨yI,a1⟩,⟨yI,a2⟩] = (Z102.l0 R N N a0 a1 a2 (0:Int) (0:Int) ([]:List Int)) := by kernel_rfl
noncomputable def Z104.l0 (R:Run) (N n:Nat) (a:(vK × Unit)) (b e f g:Int):Option Dv := R.w (some ⟨(.c (.ip (.cons yK .nil) a 0)::(.c (.d yI b)::(.c (.d yI e)::(zd 4 (.c (.d yI f)::(.c (.d yI g)::(zd 27 []))))))),(zo 39 [])⟩) fun st => lC R pol_Z104 3 N [1,1,0,1,0,0] F_Z104 n st (kB R pol_Z104 0 (kS R pol_Z104 7 N [1,1,1] F_Z104 (kTop E sg_Z104 F_Z104)))
theorem Z104.l0_succ (R:Run) (hw:R.ok) (N n:Nat) (a:(vK × Unit)) (b c d e:Int):Z104.l0 R N (n + 1) a b c d e = (bif (decide (e < b)) then ((idx? a.1 e).bind fun y6 => (bif (decide ((List.length (y6,()).1:Int) > (1:Int))) then ((idx? a.1 e).bind fun y7 => (Z104.l0 R N n a b c (w64 (d + (List.length (y7,()).1:Int))) (w64 (e + (1:Int))))) else (Z104.l0 R N n a b c d (w64 (e + (1:Int)))))) else some ⟨o_Z104,((w64 (d + c)),())⟩) := (hw _ _).trans (by kernel_rfl)
theorem Z104.ev (R:Run) (N:Nat) (a0:(vK × Unit)) (a1 a2:Int):evFn E R sg_Z104 pol_Z104 F_Z104 N [⟨(.ptr (.cons yK .nil)),a0⟩,⟨yI,a1⟩,⟨yI,a2⟩] = (Z104.l0 R N N a0 a1 a2 (0:Int) (0:Int)) := by kernel_rfl
noncomputable def Z107.l0 (R:Run) (N n:Nat) (a:(vK × Unit)) (b e:(List Int)) (f g h:Int) (i:vN) (j:vK) (k:(List Int)):Option Dv := R.w (some ⟨(.c (.ip (.cons yK .nil) a 0)::(V.dead::(.c (.d yL b)::(zd 3 (.c (.box 6 0)::(.c (.box 7 0)::(.c (.d yL e)::(.c (.d yI f)::(zd 48 []))))))))),(zo 6 (some (.box [.nils yL,.d yI g,.nils yI,.nils (.st yM)] false false)::(some (.box [.arr 63,.d yI h,.arr 64,.arr 61] false false)::(zo 53 (some (.arr (.st yM) i true false false)::(none::(some (.arr yL j true false false)::(some (.arr yI k true false false)::[]))))))))⟩) fun st => lC R pol_Z107 4 N [1,1,1,0,1,0,0] F_Z107 n st (kB R pol_Z107 0 (kS R pol_Z107 10 N [1,1,1,1] F_Z107 (kTop E sg_Z107 F_Z107)))
theorem Z107.l0_succ (R:Run) (hw:R.ok) (N n:Nat) (a:(vK × Unit)) (b c:(List Int)) (d e f:Int) (g:vN) (h:vK) (i:(List Int)):Z107.l0 R N (n + 1) a b c d e f g h i = (bif (decide (d < (List.length a.1:Int))) then ((idx? a.1 d).bind fun y12 => (bif (decide ((List.length (y12,()).1:Int) > (1:Int))) then ((chk (decide (0 ≤ (2:Int)) && decide ((2:Int) ≤ (List.length (y12,()).1:Int)))).bind fun _ => ((idx? c (0:Int)).bind fun y13 => ((callT R n_Z96 o_Z96 [⟨(.ptr (.cons yK .nil)),a⟩,⟨yL,(List.take (Int.toNat (2:Int)) (y12,()).1)⟩]).bind fun r14 => ((idx? b (w64 (r14.1 - (y13,()).1))).bind fun y15 => ((callT R n_Z104 o_Z104 [⟨(.ptr (.cons yK .nil)),a⟩,⟨yI,d⟩,⟨yI,(0:Int)⟩]).bind fun r16 => ((chk (decide (0 ≤ r16.1) && decide (r16.1 < (List.length g:Int)))).bind fun _ => (Option.bind (g)[(Int.toNat r16.1)]? fun y17 => ((chk (decide (0 ≤ (0:Int)) && decide ((0:Int) < (List.length y17.2.2.2.1:Int)))).bind fun _ => (Option.bind (g)[(Int.toNat r16.1)]? fun y18 => (Z107.l0 R N n a b c (w64 (d + (1:Int))) e f (List.set g (Int.toNat r16.1) (y18.1,y18.2.1,y18.2.2.1,(List.set y17.2.2.2.1 (Int.toNat (0:Int)) (y15,()).1),())) h i)))))))))) else (Z107.l0 R N n a b c (w64 (d + (1:Int))) e f g h i))) else some ⟨o_Z107,(h,f,i,g,())⟩) := (hw _ _).trans (by kernel_rfl)
theorem Z107.ev (R:Run) (N:Nat) (a0:(vK × Unit)) (a1:Int) (a2:(List Int)):evFn E R sg_Z107 pol_Z107 F_Z107 N [⟨(.ptr (.cons yK .nil)),a0⟩,⟨yI,a1⟩,⟨yL,a2⟩] = ((callT R n_Z102 o_Z102 [⟨(.ptr (.cons yK .nil)),a0⟩,⟨yI,a1⟩,⟨yI,(1:Int)⟩]).bind fun r1 => ((callT R n_Z97 o_Z97 [⟨(.ptr (.cons yK .nil)),a0⟩,⟨yI,(1:Int)⟩]).bind fun r2 => (Z107.l0 R N N a0 a2 r2.1 (0:Int) (0:Int) r1.2.1 r1.2.2.2.1 r1.1 r1.2.2.1))) := by kernel_rfl
noncomputable def Z106.l0 (R:Run) (N n:Nat) (a b:(List Int)) (e f:Int):Option Dv := R.w (some ⟨(V.dead::(.c (.d yL a)::(zd 5 (.c (.d yL b)::(.c (.d yI e)::(.c (.d yI f)::(zd 19 []))))))),(zo 32 [])⟩) fun st => lC R pol_Z106 4 N [1,1,1,0,1,0,0] F_Z106 n st (kB R pol_Z106 0 (kS R pol_Z106 7 N [1,1,1,1] F_Z106 (kTop E sg_Z106 F_Z106)))
theorem Z106.l0_succ (R:Run) (hw:R.ok) (N n:Nat) (a b:(List Int)) (c d:Int):Z106.l0 R N (n + 1) a b c d = (bif (decide (d < (List.length b:Int))) then ((idx? b d).bind fun y6 => ((idx? a (y6,()).1).bind fun y7 => (Z106.l0 R N n a b (w64 (c + (y7,()).1)) (w64 (d + (1:Int)))))) else some ⟨o_Z106,(c,())⟩) := (hw _ _).trans (by kernel_rfl)
theorem Z106.ev (R:Run) (N:Nat) (a0:(vK × Unit)) (a1:(List Int)) (a2:Int):evFn E R sg_Z106 pol_Z106 F_Z106 N [⟨(.ptr (.cons yK .nil)),a0⟩,⟨yL,a1⟩,⟨yI,a2⟩] = ((callT R n_Z97 o_Z97 [⟨(.ptr (.cons yK .nil)),a0⟩,⟨yI,a2⟩]).bind fun r1 => (Z106.l0 R N N a1 r1.1 (0:Int) (0:Int))) := by kernel_rfl
noncomputable def Z105.l0 (R:Run) (N n:Nat) (a:(vK × Unit)) (b:(List Int)) (e:Int):Option Dv := R.w (some ⟨(.c (.ip (.cons yK .nil) a 0)::(.c (.d yL b)::(zd 3 (.c (.d yI e)::(zd 17 []))))),(zo 25 [])⟩) fun st => lC R pol_Z105 4 N [1,1,0,1,0,0] F_Z105 n st (kB R pol_Z105 0 (kS R pol_Z105 8 N [1,1,1] F_Z105 (kTop E sg_Z105 F_Z105)))
theorem Z105.l0_succ (R:Run) (hw:R.ok) (N n:Nat) (a:(vK × Unit)) (b:(List Int)) (c:Int):Z105.l0 R N (n + 1) a b c = (bif (decide (c ≤ (3:Int))) then ((callT R n_Z106 o_Z106 [⟨(.ptr (.cons yK .nil)),a⟩,⟨yL,b⟩,⟨yI,c⟩]).bind fun r5 => (bif (decide (r5.1 > (32:Int))) then some ⟨o_Z105,(false,())⟩ else (Z105.l0 R N n a b (w64 (c + (1:Int)))))) else some ⟨o_Z105,(true,())⟩) := (hw _ _).trans (by kernel_rfl)
theorem Z105.ev (R:Run) (N:Nat) (a0:(vK × Unit)) (a1:(List Int)):evFn E R sg_Z105 pol_Z105 F_Z105 N [⟨(.ptr (.cons yK .nil)),a0⟩,⟨yL,a1⟩] = ((callT R n_Z90 o_Z90 [⟨yL,a1⟩,⟨yI,(List.length a0.1:Int)⟩,⟨yI,(4:Int)⟩]).bind fun r1 => (bif (!r1.1) then some ⟨o_Z105,(false,())⟩ else (Z105.l0 R N N a0 a1 (0:Int)))) := by kernel_rfl
noncomputable def Z82.j0 (R:Run) (N:Nat) (a:Int) (b:(List Int)) (e:Bool) (f:vK) (g:Int):Option Dv := R.w (some ⟨(V.dead::(.c (.d yI a)::(.c (.d yL b)::(.c (.box 3 0)::(V.dead::(V.dead::(.c (.box 6 0)::(zd 17 (.c (.d .bool e)::(zd 10 [])))))))))),(zo 3 (some (.box [.d yK f] false false)::(none::(none::(some (.box [.nils yL,.d yI g,.nils yI,.nils (.st yM)] false false)::(zo 34 []))))))⟩) fun st => eC R pol_Z82 N [1,1,1,0,1] F_Z82 st (kS R pol_Z82 6 N [1,1,1,1] F_Z82 (kTop E sg_Z82 F_Z82))
theorem Z82.j0_eq (R:Run) (hw:R.ok) (N:Nat) (a:Int) (b:(List Int)) (c:Bool) (d:vK) (e:Int):Z82.j0 R N a b c d e = (bif c then some ⟨o_Z82,(([]:List (List Int)),(0:Int),([]:List Int),([]:List vM),(7:Int),())⟩ else ((callT R n_Z107 o_Z107 [⟨(.ptr (.cons yK .nil)),(d,())⟩,⟨yI,a⟩,⟨yL,b⟩]).bind fun r9 => ((callT R n_Z105 o_Z105 [⟨(.ptr (.cons yK .nil)),(d,())⟩,⟨yL,r9.2.2.1⟩]).bind fun r10 => (bif (!r10.1) then some ⟨o_Z82,(([]:List (List Int)),(0:Int),([]:List Int),([]:List vM),(5:Int),())⟩ else some ⟨o_Z82,(r9.1,r9.2.1,r9.2.2.1,r9.2.2.2.1,(0:Int),())⟩)))) := (hw _ _).trans (by kernel_rfl)
theorem Z82.ev (R:Run) (N:Nat) (a0:vK) (a1:Int) (a2:(List Int)):evFn E R sg_Z82 pol_Z82 F_Z82 N [⟨yK,a0⟩,⟨yI,a1⟩,⟨yL,a2⟩] = ((callT R n_Z101 o_Z101 [⟨(.ptr (.cons yK .nil)),(a0,())⟩,⟨yI,a1⟩]).bind fun r1 => (bif (!r1.1) then some ⟨o_Z82,(([]:List (List Int)),(0:Int),([]:List Int),([]:List vM),(1:Int),())⟩ else ((callT R n_Z97 o_Z97 [⟨(.ptr (.cons yK .nil)),(a0,())⟩,⟨yI,(1:Int)⟩]).bind fun r2 => ((callT R n_Z90 o_Z90 [⟨yL,a2⟩,⟨yI,(List.length r2.1:Int)⟩,⟨yI,a1⟩]).bind fun r3 => (bif (!r3.1) then (Z82.j0 R N a1 a2 true a0 (0:Int)) else ((callT R n_Z84 o_Z84 [⟨yL,a2⟩,⟨yI,(0:Int)⟩]).bind fun r11 => (Z82.j0 R N a1 a2 r11.1 a0 (0:Int)))))))) := by kernel_rfl
noncomputable def Z26.l0 (R:Run) (N n:Nat) (a:(List Int)) (b:Int):Option Dv := R.w (some ⟨(.c (.d yL a)::(V.dead::(V.dead::(.c (.d yI b)::(zd 16 []))))),(zo 21 [])⟩) fun st => lC R pol_Z26 2 N [1,0,1,0,0] F_Z26 n st (kB R pol_Z26 0 (kS R pol_Z26 6 N [1,1] F_Z26 (kTop E sg_Z26 F_Z26)))
theorem Z26.l0_succ (R:Run) (hw:R.ok) (N n:Nat) (a:(List Int)) (b:Int):Z26.l0 R N (n + 1) a b = (bif (decide (b < (List.length a:Int))) then ((idx? a (w64 (b - (1:Int)))).bind fun y3 => ((idx? a b).bind fun y4 => (bif (decide ((y3,()).1 ≥ (y4,()).1)) then some ⟨o_Z26,(false,())⟩ else (Z26.l0 R N n a (w64 (b + (1:Int))))))) else some ⟨o_Z26,(true,())⟩) := (hw _ _).trans (by kernel_rfl)
theorem Z26.ev (R:Run) (N:Nat) (a0:(List Int)):evFn E R sg_Z26 pol_Z26 F_Z26 N [⟨yL,a0⟩] = (Z26.l0 R N N a0 (1:Int)) := by kernel_rfl
theorem Z36.ev (R:Run) (N:Nat) (a0 a1 a2:Int):evFn E R sg_Z36 pol_Z36 F_Z36 N [⟨yI,a0⟩,⟨yI,a1⟩,⟨yI,a2⟩] = (bif (decide (a0 ≥ a1)) then some ⟨o_Z36,((decide (a0 ≤ a2)),())⟩ else some ⟨o_Z36,(false,())⟩) := by kernel_rfl
theorem Z27.ev (R:Run) (N:Nat) (a0:Int):evFn E R sg_Z27 pol_Z27 F_Z27 N [⟨yI,a0⟩] = ((callT R n_Z36 o_Z36 [⟨yI,a0⟩,⟨yI,(0:Int)⟩,⟨yI,(9:Int)⟩]).bind fun r1 => some ⟨o_Z27,(r1.1,())⟩) := by kernel_rfl
theorem Z12.ev (R:Run) (N:Nat) (a0:Int):evFn E R sg_Z12 pol_Z12 F_Z12 N [⟨yI,a0⟩] = ((callT R n_Z27 o_Z27 [⟨yI,a0⟩]).bind fun r1 => some ⟨o_Z12,((!r1.1),())⟩) := by kernel_rfl
noncomputable def Z78.l0 (R:Run) (N n:Nat) (a:(List Int)) (b e:Int):Option Dv := R.w (some ⟨(.c (.d yL a)::(.c (.d (.fn n_Z12 .nil) ())::(zd 5 (.c (.d yI b)::(.c (.d yI e)::(zd 10 [])))))),(zo 21 [])⟩) fun st => q0_4 R N n st (q0_5 R (q0_2 R N (kTop E sg_Z76 F_Z76)))
theorem Z78.l0_succ (R:Run) (hw:R.ok) (N n:Nat) (a:(List Int)) (b c:Int):Z78.l0 R N (n + 1) a b c = (bif (decide (c < b)) then ((idx? a c).bind fun y4 => ((callT R n_Z12 o_Z12 [⟨yI,(y4,()).1⟩]).bind fun r5 => (bif r5.1 then some ⟨o_Z76,(c,())⟩ else (Z78.l0 R N n a b (w64 (c + (1:Int))))))) else some ⟨o_Z76,((-1:Int),())⟩) := (hw _ _).trans (by kernel_rfl)
theorem Z78.ev (R:Run) (N:Nat) (a0:(List Int)):evFn E R sg_Z76 pol_Z76 F_Z76 N [⟨yL,a0⟩,⟨(.fn n_Z12 .nil),()⟩] = (Z78.l0 R N N a0 (List.length a0:Int) (0:Int)) := by kernel_rfl
theorem Z70.ev (R:Run) (N:Nat) (a0:(List Int)):evFn E R sg_Z68 pol_Z68 F_Z68 N [⟨yL,a0⟩,⟨(.fn n_Z12 .nil),()⟩] = ((callT R n_Z76 o_Z76 [⟨yL,a0⟩,⟨(.fn n_Z12 .nil),()⟩]).bind fun r1 => some ⟨o_Z68,((decide (r1.1 ≥ (0:Int))),())⟩) := by kernel_rfl
theorem Z11.ev (R:Run) (N:Nat) (a0:(List Int)):evFn E R sg_Z11 pol_Z11 F_Z11 N [⟨yL,a0⟩] = (bif (decide ((List.length a0:Int) ≥ (1:Int))) then (bif (decide ((List.length a0:Int) ≤ (4:Int))) then ((callT R n_Z26 o_Z26 [⟨yL,a0⟩]).bind fun r1 => (bif r1.1 then ((callT R n_Z68 o_Z68 [⟨yL,a0⟩,⟨(.fn n_Z12 .nil),()⟩]).bind fun r2 => some ⟨o_Z11,((!r2.1),())⟩) else some ⟨o_Z11,(false,())⟩)) else some ⟨o_Z11,(false,())⟩) else some ⟨o_Z11,(false,())⟩) := by kernel_rfl
theorem Z3.ev (R:Run) (N:Nat) (a0:Int):evFn E R sg_Z3 pol_Z3 F_Z3 N [⟨yI,a0⟩] = some ⟨o_Z3,((a0 != a0),())⟩ := by kernel_rfl
theorem Z0.ev (R:Run) (N:Nat) (a0 a1:Int):evFn E R sg_Z0 pol_Z0 F_Z0 N [⟨yI,a0⟩,⟨yI,a1⟩] = ((callT R n_Z3 o_Z3 [⟨yI,a0⟩]).bind fun r1 => ((callT R n_Z3 o_Z3 [⟨yI,a1⟩]).bind fun r2 => (bif r1.1 then (bif r2.1 then some ⟨o_Z0,((0:Int),())⟩ else some ⟨o_Z0,((-1:Int),())⟩) else (bif r2.1 then some ⟨o_Z0,((1:Int),())⟩ else (bif (decide (a0 < a1)) then some ⟨o_Z0,((-1:Int),())⟩ else (bif (decide (a0 > a1)) then some ⟨o_Z0,((1:Int),())⟩ else some ⟨o_Z0,((0:Int),())⟩)))))) := by kernel_rfl
theorem Z4.ev (R:Run) (N:Nat) (a0:Int):evFn E R sg_Z4 pol_Z4 F_Z4 N [⟨yI,a0⟩] = some ⟨o_Z4,((a0 != a0),())⟩ := by kernel_rfl
theorem Z1.ev (R:Run) (N:Nat) (a0 a1:Int):evFn E R sg_Z1 pol_Z1 F_Z1 N [⟨yI,a0⟩,⟨yI,a1⟩] = ((callT R n_Z4 o_Z4 [⟨yI,a0⟩]).bind fun r1 => ((callT R n_Z4 o_Z4 [⟨yI,a1⟩]).bind fun r2 => (bif r1.1 then (bif r2.1 then some ⟨o_Z1,((0:Int),())⟩ else some ⟨o_Z1,((-1:Int),())⟩) else (bif r2.1 then some ⟨o_Z1,((1:Int),())⟩ else (bif (decide (a0 < a1)) then some ⟨o_Z1,((-1:Int),())⟩ else (bif (decide (a0 > a1)) then some ⟨o_Z1,((1:Int),())⟩ else some ⟨o_Z1,((0:Int),())⟩)))))) := by kernel_rfl
noncomputable def Z64.l0 (R:Run) (N n:Nat) (a b e:(List Int)) (f g:Int):Option Dv := R.w (some ⟨(.c (.d yL a)::(.c (.d yL b)::(zd 7 (.c (.d yL e)::(.c (.d yI f)::(.c (.d yI g)::(zd 24 []))))))),(zo 38 [])⟩) fun st => lC R pol_Z64 2 N [1,0,1,0,0] F_Z64 n st (kB R pol_Z64 0 (kS R pol_Z64 11 N [1,1] F_Z64 (kTop E sg_Z64 F_Z64)))
theorem Z64.l0_succ (R:Run) (hw:R.ok) (N n:Nat) (a b c:(List Int)) (d e:Int):Z64.l0 R N (n + 1) a b c d e = (bif (decide (e < d)) then ((idx? c e).bind fun y6 => (bif (decide (e ≥ (List.length b:Int))) then some ⟨o_Z64,((1:Int),())⟩ else ((idx? b e).bind fun y7 => ((callT R n_Z1 o_Z1 [⟨yI,(y6,()).1⟩,⟨yI,(y7,()).1⟩]).bind fun r8 => (bif (r8.1 != (0:Int)) then some ⟨o_Z64,(r8.1,())⟩ else (Z64.l0 R N n a b c d (w64 (e + (1:Int))))))))) else (bif (decide ((List.length a:Int) < (List.length b:Int))) then some ⟨o_Z64,((-1:Int),())⟩ else some ⟨o_Z64,((0:Int),())⟩)) := (hw _ _).trans (by kernel_rfl)
theorem Z64.ev (R:Run) (N:Nat) (a0 a1:(List Int)):evFn E R sg_Z64 pol_Z64 F_Z64 N [⟨yL,a0⟩,⟨yL,a1⟩] = (Z64.l0 R N N a0 a1 a0 (List.length a0:Int) (0:Int)) := by kernel_rfl
noncomputable def Z2.l0 (R:Run) (N n:Nat) (a:Int) (b:(List Int)) (e f:Int):Option Dv := R.w (some ⟨(zd 3 (.c (.d yI a)::(V.dead::(V.dead::(.c (.d yL b)::(.c (.d yI e)::(.c (.d yI f)::(zd 9 [])))))))),(zo 19 [])⟩) fun st => lC R pol_Z2 3 N [1,1,0,1,0,0] F_Z2 n st (kB R pol_Z2 0 (kS R pol_Z2 8 N [1,1,1] F_Z2 (kTop E sg_Z2 F_Z2)))
theorem Z2.l0_succ (R:Run) (hw:R.ok) (N n:Nat) (a:Int) (b:(List Int)) (c d:Int):Z2.l0 R N (n + 1) a b c d = (bif (decide (d < c)) then ((idx? b d).bind fun y5 => (bif ((y5,()).1 != a) then some ⟨o_Z2,((y5,()).1,())⟩ else (Z2.l0 R N n a b c (w64 (d + (1:Int)))))) else some ⟨o_Z2,(a,())⟩) := (hw _ _).trans (by kernel_rfl)
theorem Z2.ev (R:Run) (N:Nat) (a0:(List Int)):evFn E R sg_Z2 pol_Z2 F_Z2 N [⟨yL,a0⟩] = (Z2.l0 R N N (0:Int) a0 (List.length a0:Int) (0:Int)) := by kernel_rfl
theorem Z16.ev (R:Run) (N:Nat) (a0 a1:(List Int)):evFn E R sg_Z16 pol_Z16 F_Z16 N [⟨yL,a0⟩,⟨yL,a1⟩] = ((callT R n_Z0 o_Z0 [⟨yI,(List.length a0:Int)⟩,⟨yI,(List.length a1:Int)⟩]).bind fun r1 => ((callT R n_Z64 o_Z64 [⟨yL,a0⟩,⟨yL,a1⟩]).bind fun r2 => ((callT R n_Z2 o_Z2 [⟨yL,[r1.1,r2.1]⟩]).bind fun r3 => some ⟨o_Z16,(r3.1,())⟩))) := by kernel_rfl
noncomputable def Z65.l1 (R:Run) (N n:Nat) (a:vK) (b e:Int) (f:(List Int)):Option Dv := R.w (some ⟨(zd 6 (.c (.arr 37)::(zd 18 (.c (.d yK a)::(.c (.d yI b)::(.c (.d yI e)::(zd 8 []))))))),(zo 37 (some (.arr yI f true false false)::[]))⟩) fun st => lC R pol_Z65 11 N [1,1,1,1,0,1,0,0] F_Z65 n st (kB R pol_Z65 2 (kS R pol_Z65 15 N [1,1,1,1,1] F_Z65 (kTop E sg_Z65 F_Z65)))
noncomputable def Z65.l0 (R:Run) (N n:Nat) (a:vK) (b:Int) (e:vK) (f g:Int):Option Dv := R.w (some ⟨(.c (.d yK a)::(V.dead::(V.dead::(.c (.d yI b)::(zd 5 (.c (.d yK e)::(.c (.d yI f)::(.c (.d yI g)::(zd 24 []))))))))),(zo 38 [])⟩) fun st => lC R pol_Z65 3 N [1,1,0,1,0,0] F_Z65 n st (kB R pol_Z65 0 (kS R pol_Z65 9 N [1,1,1] F_Z65 (kTop E sg_Z65 F_Z65)))
theorem Z65.l1_succ (R:Run) (hw:R.ok) (N n:Nat) (a:vK) (b c:Int) (d:(List Int)):Z65.l1 R N (n + 1) a b c d = (bif (decide (c < b)) then ((idx? a c).bind fun y17 => ((chk (decide ((List.length d + List.length (y17,()).1) * 8 ≤ 70368744177664))).bind fun _ => (Z65.l1 R N n a b (w64 (c + (1:Int))) (d ++ (y17,()).1)))) else some ⟨o_Z65,(d,())⟩) := (hw _ _).trans (by kernel_rfl)
theorem Z65.l0_succ (R:Run) (hw:R.ok) (N n:Nat) (a:vK) (b:Int) (c:vK) (d e:Int):Z65.l0 R N (n + 1) a b c d e = (bif (decide (e < d)) then ((idx? c e).bind fun y6 => (bif (decide ((w64 (b + (List.length (y6,()).1:Int))) < (0:Int))) then none else (Z65.l0 R N n a (w64 (b + (List.length (y6,()).1:Int))) c d (w64 (e + (1:Int)))))) else ((callT R n_Z73 o_Z73 [⟨yL,([]:List Int)⟩,⟨yI,b⟩]).bind fun r12 => (Z65.l1 R N N a (List.length a:Int) (0:Int) r12.1))) := (hw _ _).trans (by kernel_rfl)
theorem Z65.ev (R:Run) (N:Nat) (a0:vK):evFn E R sg_Z65 pol_Z65 F_Z65 N [⟨yK,a0⟩] = (Z65.l0 R N N a0 (0:Int) a0 (List.length a0:Int) (0:Int)) := by kernel_rfl
noncomputable def Z21.l0 (R:Run) (N n:Nat) (a:(List Int)) (b e:Int) (f:vK):Option Dv := R.w (some ⟨(.c (.d yL a)::(V.dead::(V.dead::(.c (.arr 24)::(V.dead::(V.dead::(.c (.d yI b)::(.c (.d yI e)::(zd 19 []))))))))),(zo 24 (some (.arr yL f true false false)::(zo 4 [])))⟩) fun st => lC R pol_Z21 3 N [1,1,0,1,0,0] F_Z21 n st (kB R pol_Z21 0 (kS R pol_Z21 8 N [1,1,1] F_Z21 (kTop E sg_Z21 F_Z21)))
theorem Z21.l0_succ (R:Run) (hw:R.ok) (N n:Nat) (a:(List Int)) (b c:Int) (d:vK):Z21.l0 R N (n + 1) a b c d = (bif (decide (c < b)) then (bif (decide ((List.length a:Int) > (1:Int))) then ((chk (decide (0 ≤ c) && decide (c ≤ (List.length a:Int)))).bind fun _ => ((chk (decide (0 ≤ (w64 (c + (1:Int)))) && decide ((w64 (c + (1:Int))) ≤ (List.length a:Int)))).bind fun _ => ((callT R n_Z65 o_Z65 [⟨yK,[(List.take (Int.toNat c) a),(List.drop (Int.toNat (w64 (c + (1:Int)))) a)]⟩]).bind fun r5 => ((chk (decide ((List.length d + List.length [r5.1]) * 24 ≤ 70368744177664))).bind fun _ => (Z21.l0 R N n a b (w64 (c + (1:Int))) (d ++ [r5.1])))))) else (Z21.l0 R N n a b (w64 (c + (1:Int))) d)) else some ⟨o_Z21,(d,())⟩) := (hw _ _).trans (by kernel_rfl)
theorem Z21.ev (R:Run) (N:Nat) (a0:(List Int)):evFn E R sg_Z21 pol_Z21 F_Z21 N [⟨yL,a0⟩] = (Z21.l0 R N N a0 (List.length a0:Int) (0:Int) ([]:List (List Int))) := by kernel_rfl
noncomputable def Z61.l0 (R:Run) (N n:Nat) (a:vK) (b:(List Int)) (e f g:Int):Option Dv := R.w (some ⟨(.c (.d yK a)::(.c (.d yL b)::(.c (.d (.fn n_Z16 .nil) ())::(zd 5 (.c (.d yI e)::(.c (.d yI f)::(.c (.d yI g)::(zd 38 [])))))))),(zo 52 [])⟩) fun st => lC R pol_Z60 3 N [1,1,1,0,0,0] F_Z60 n st (kB R pol_Z60 0 (kS R pol_Z60 8 N [1,1,1,1] F_Z60 (kTop E sg_Z60 F_Z60)))
theorem Z61.l0_succ (R:Run) (hw:R.ok) (N n:Nat) (a:vK) (b:(List Int)) (c d e:Int):Z61.l0 R N (n + 1) a b c d e = (bif (decide (d < e)) then ((chk (decide (0 ≤ (1:Int)))).bind fun _ => ((idx? a (w64 ((Int.fdiv (IntKind.wrap .u64 ((w64 (d + e)))) (2 ^ (min (Int.toNat (1:Int)) (IntKind.bits .u64))))))).bind fun y6 => ((callT R n_Z16 o_Z16 [⟨yL,(y6,()).1⟩,⟨yL,b⟩]).bind fun r7 => (bif (decide (r7.1 < (0:Int))) then (Z61.l0 R N n a b c (w64 ((w64 ((Int.fdiv (IntKind.wrap .u64 ((w64 (d + e)))) (2 ^ (min (Int.toNat (1:Int)) (IntKind.bits .u64)))))) + (1:Int))) e) else (Z61.l0 R N n a b c d (w64 ((Int.fdiv (IntKind.wrap .u64 ((w64 (d + e)))) (2 ^ (min (Int.toNat (1:Int)) (IntKind.bits .u64))))))))))) else (bif (decide (d < c)) then ((idx? a d).bind fun y18 => ((callT R n_Z16 o_Z16 [⟨yL,(y18,()).1⟩,⟨yL,b⟩]).bind fun r19 => some ⟨o_Z60,(d,(r19.1 == (0:Int)),())⟩)) else some ⟨o_Z60,(d,false,())⟩)) := (hw _ _).trans (by kernel_rfl)
theorem Z61.ev (R:Run) (N:Nat) (a0:vK) (a1:(List Int)):evFn E R sg_Z60 pol_Z60 F_Z60 N [⟨yK,a0⟩,⟨yL,a1⟩,⟨(.fn n_Z16 .nil),()⟩] = (Z61.l0 R N N a0 a1 (List.length a0:Int) (0:Int) (List.length a0:Int)) := by kernel_rfl
theorem Z25.ev (R:Run) (N:Nat) (a0:vK) (a1:(List Int)):evFn E R sg_Z25 pol_Z25 F_Z25 N [⟨yK,a0⟩,⟨yL,a1⟩] = ((callT R n_Z60 o_Z60 [⟨yK,a0⟩,⟨yL,a1⟩,⟨(.fn n_Z16 .nil),()⟩]).bind fun r1 => (bif (!r1.2.1) then some ⟨o_Z25,((-1:Int),())⟩ else some ⟨o_Z25,(r1.1,())⟩)) := by kernel_rfl
theorem Z9.ev (R:Run) (N:Nat) (a0:(List Int)) (a1:(vK × Unit)) (a2:(Int × Unit)):evFn E R sg_Z9 pol_Z9 F_Z9 N [⟨yL,a0⟩,⟨(.ptr (.cons yK .nil)),a1⟩,⟨(.ptr (.cons yI .nil)),a2⟩] = ((chk (decide (0 ≤ a2.1) && decide (a2.1 ≤ (List.length a1.1:Int)))).bind fun _ => ((callT R n_Z25 o_Z25 [⟨yK,(List.take (Int.toNat a2.1) a1.1)⟩,⟨yL,a0⟩]).bind fun r1 => some ⟨o_Z9,((decide (r1.1 < (0:Int))),())⟩)) := by kernel_rfl
noncomputable def Z75.l0 (R:Run) (N n:Nat) (a:vK) (b:((vK × Unit) × (Int × Unit) × Unit)) (e f:Int):Option Dv := R.w (some ⟨(.c (.d yK a)::(.c (.d (.fn n_Z9 (.cons (.ptr (.cons yK .nil)) (.cons (.ptr (.cons yI .nil)) .nil))) b)::(zd 5 (.c (.d yI e)::(.c (.d yI f)::(zd 10 [])))))),(zo 21 [])⟩) fun st => lC R pol_Z74 2 N [1,0,1,0,0] F_Z74 n st (kB R pol_Z74 0 (kS R pol_Z74 7 N [1,1] F_Z74 (kTop E sg_Z74 F_Z74)))
theorem Z75.l0_succ (R:Run) (hw:R.ok) (N n:Nat) (a:vK) (b:((vK × Unit) × (Int × Unit) × Unit)) (c d:Int):Z75.l0 R N (n + 1) a b c d = (bif (decide (d < c)) then ((idx? a d).bind fun y5 => ((callT R n_Z9 o_Z9 [⟨yL,(y5,()).1⟩,⟨(.ptr (.cons yK .nil)),b.1⟩,⟨(.ptr (.cons yI .nil)),b.2.1⟩]).bind fun r6 => (bif r6.1 then some ⟨o_Z74,(d,())⟩ else (Z75.l0 R N n a b c (w64 (d + (1:Int))))))) else some ⟨o_Z74,((-1:Int),())⟩) := (hw _ _).trans (by kernel_rfl)
theorem Z75.ev (R:Run) (N:Nat) (a0:vK) (a1:((vK × Unit) × (Int × Unit) × Unit)):evFn E R sg_Z74 pol_Z74 F_Z74 N [⟨yK,a0⟩,⟨(.fn n_Z9 (.cons (.ptr (.cons yK .nil)) (.cons (.ptr (.cons yI .nil)) .nil))),a1⟩] = (Z75.l0 R N N a0 a1 (List.length a0:Int) (0:Int)) := by kernel_rfl
theorem Z67.ev (R:Run) (N:Nat) (a0:vK) (a1:((vK × Unit) × (Int × Unit) × Unit)):evFn E R sg_Z66 pol_Z66 F_Z66 N [⟨yK,a0⟩,⟨(.fn n_Z9 (.cons (.ptr (.cons yK .nil)) (.cons (.ptr (.cons yI .nil)) .nil))),a1⟩] = ((callT R n_Z74 o_Z74 [⟨yK,a0⟩,⟨(.fn n_Z9 (.cons (.ptr (.cons yK .nil)) (.cons (.ptr (.cons yI .nil)) .nil))),a1⟩]).bind fun r1 => some ⟨o_Z66,((decide (r1.1 ≥ (0:Int))),())⟩) := by kernel_rfl
noncomputable def Z8.j1 (R:Run) (N a:Nat) (b:(List Int)) (e:vK) (f g:Int) (h:Bool) (i:vK) (j:Int):Option Dv := R.w (some ⟨(V.dead::(.c (.box 1 0)::(V.dead::(.c (.box 3 0)::(.c (.d yL b)::(V.dead::(.c (.d yK e)::(.c (.d yI f)::(.c (.d yI g)::(zd 21 (.c (.d .bool h)::(zd 9 [])))))))))))),(none::(some (.box [.d yK i] true false)::(none::(some (.box [.d yI j] false false)::(zo 37 [])))))⟩) fun st => eC R pol_Z8 N [1,0,1,0,0,1,1,0,0,1,0,1] F_Z8 st (kS R pol_Z8 6 N [1,0,1,0,0,1,1,0,0,1,1] F_Z8 (kB R pol_Z8 1 (kS R pol_Z8 8 N [1,0,1,0,0,1,1,1] F_Z8 (kL R pol_Z8 2 N [1,0,1,0,0] F_Z8 a (kB R pol_Z8 0 (kS R pol_Z8 9 N [1,1] F_Z8 (kTop E sg_Z8 F_Z8)))))))
noncomputable def Z8.l0 (R:Run) (N n:Nat) (a:vK) (b e:Int) (f:vK):Option Dv := R.w (some ⟨(V.dead::(.c (.box 1 0)::(zd 4 (.c (.d yK a)::(.c (.d yI b)::(.c (.d yI e)::(zd 31 []))))))),(none::(some (.box [.d yK f] true false)::(zo 39 [])))⟩) fun st => lC R pol_Z8 2 N [1,0,1,0,0] F_Z8 n st (kB R pol_Z8 0 (kS R pol_Z8 9 N [1,1] F_Z8 (kTop E sg_Z8 F_Z8)))
theorem Z8.j1_eq (R:Run) (hw:R.ok) (N a:Nat) (b:(List Int)) (c:vK) (d e:Int) (f:Bool) (g:vK) (h:Int):Z8.j1 R N a b c d e f g h = (bif f then some ⟨o_Z8,(false,())⟩ else ((callT R n_Z21 o_Z21 [⟨yL,b⟩]).bind fun r14 => ((callT R n_Z66 o_Z66 [⟨yK,r14.1⟩,⟨(.fn n_Z9 (.cons (.ptr (.cons yK .nil)) (.cons (.ptr (.cons yI .nil)) .nil))),((g,()),(h,()),())⟩]).bind fun r15 => (bif r15.1 then some ⟨o_Z8,(false,())⟩ else (Z8.l0 R N a c d (w64 (e + (1:Int))) g))))) := (hw _ _).trans (by kernel_rfl)
theorem Z8.l0_succ (R:Run) (hw:R.ok) (N n:Nat) (a:vK) (b c:Int) (d:vK):Z8.l0 R N (n + 1) a b c d = (bif (decide (c < b)) then ((idx? a c).bind fun y5 => ((callT R n_Z11 o_Z11 [⟨yL,(y5,()).1⟩]).bind fun r6 => (bif (!r6.1) then (Z8.j1 R N n ((y5,()).1) a b c true d c) else (bif (decide (c > (0:Int))) then ((idx? d (w64 (c - (1:Int)))).bind fun y20 => ((callT R n_Z16 o_Z16 [⟨yL,(y20,()).1⟩,⟨yL,(y5,()).1⟩]).bind fun r21 => (Z8.j1 R N n ((y5,()).1) a b c (decide (r21.1 ≥ (0:Int))) d c))) else (Z8.j1 R N n ((y5,()).1) a b c false d c))))) else some ⟨o_Z8,((decide ((List.length d:Int) ≤ (48:Int))),())⟩) := (hw _ _).trans (by kernel_rfl)
theorem Z8.ev (R:Run) (N:Nat) (a0:vK):evFn E R sg_Z8 pol_Z8 F_Z8 N [⟨yK,a0⟩] = (Z8.l0 R N N a0 (List.length a0:Int) (0:Int) a0) := by kernel_rfl
noncomputable def Z10.l0 (R:Run) (N n:Nat) (a b:Int):Option Dv := R.w (some ⟨(.c (.d yI a)::(V.dead::(V.dead::(.c (.d yI b)::(zd 14 []))))),(zo 19 [])⟩) fun st => lC R pol_Z10 4 N [1,1,0,1,0,0] F_Z10 n st (kB R pol_Z10 0 (kS R pol_Z10 8 N [1,1,1] F_Z10 (kTop E sg_Z10 F_Z10)))
theorem Z10.l0_succ (R:Run) (hw:R.ok) (N n:Nat) (a b:Int):Z10.l0 R N (n + 1) a b = (bif (decide ((w64 (b * b)) ≤ a)) then ((chk (b != 0)).bind fun _ => (bif ((Int.tmod a b) == (0:Int)) then some ⟨o_Z10,(false,())⟩ else (Z10.l0 R N n a (w64 (b + (1:Int)))))) else some ⟨o_Z10,(true,())⟩) := (hw _ _).trans (by kernel_rfl)
theorem Z10.ev (R:Run) (N:Nat) (a0:Int):evFn E R sg_Z10 pol_Z10 F_Z10 N [⟨yI,a0⟩] = ((callT R n_Z36 o_Z36 [⟨yI,a0⟩,⟨yI,(2:Int)⟩,⟨yI,(251:Int)⟩]).bind fun r1 => (bif (!r1.1) then some ⟨o_Z10,(false,())⟩ else (Z10.l0 R N N a0 (2:Int)))) := by kernel_rfl
theorem Z32.ev (R:Run) (N:Nat) (a0:(List Int)):evFn E R sg_Z32 pol_Z32 F_Z32 N [⟨yL,a0⟩] = some ⟨o_Z32,((List.length a0:Int),())⟩ := by kernel_rfl
noncomputable def Z30.l0 (R:Run) (N n:Nat) (a:Int) (b:vK) (e f:Int) (g:(List Int)):Option Dv := R.w (some ⟨(V.dead::(.c (.d yI a)::(zd 3 (.c (.arr 24)::(zd 3 (.c (.d yK b)::(.c (.d yI e)::(.c (.d yI f)::(zd 15 []))))))))),(zo 24 (some (.arr yI g true false false)::(zo 4 [])))⟩) fun st => lC R pol_Z30 3 N [1,1,0,1,0,0] F_Z30 n st (kB R pol_Z30 0 (kS R pol_Z30 8 N [1,1,1] F_Z30 (kTop E sg_Z30 F_Z30)))
theorem Z30.l0_succ (R:Run) (hw:R.ok) (N n:Nat) (a:Int) (b:vK) (c d:Int) (e:(List Int)):Z30.l0 R N (n + 1) a b c d e = (bif (decide (d < c)) then ((idx? b d).bind fun y6 => ((callT R n_Z32 o_Z32 [⟨yL,(y6,()).1⟩]).bind fun r7 => (bif (r7.1 == (w64 (a + (1:Int)))) then ((chk (decide ((List.length e + List.length [d]) * 8 ≤ 70368744177664))).bind fun _ => (Z30.l0 R N n a b c (w64 (d + (1:Int))) (e ++ [d]))) else (Z30.l0 R N n a b c (w64 (d + (1:Int))) e)))) else some ⟨o_Z30,(e,())⟩) := (hw _ _).trans (by kernel_rfl)
theorem Z30.ev (R:Run) (N:Nat) (a0:vK) (a1:Int):evFn E R sg_Z30 pol_Z30 F_Z30 N [⟨yK,a0⟩,⟨yI,a1⟩] = (Z30.l0 R N N a1 a0 (List.length a0:Int) (0:Int) ([]:List Int)) := by kernel_rfl
theorem Z6.ev (R:Run) (N:Nat) (a0:Int) (a1:(Int × Unit)):evFn E R sg_Z6 pol_Z6 F_Z6 N [⟨yI,a0⟩,⟨(.ptr (.cons yI .nil)),a1⟩] = ((callT R n_Z36 o_Z36 [⟨yI,a0⟩,⟨yI,(1:Int)⟩,⟨yI,(w64 (a1.1 - (1:Int)))⟩]).bind fun r1 => some ⟨o_Z6,((!r1.1),())⟩) := by kernel_rfl
noncomputable def Z77.l0 (R:Run) (N n:Nat) (a:(List Int)) (b:((Int × Unit) × Unit)) (e f:Int):Option Dv := R.w (some ⟨(.c (.d yL a)::(.c (.d (.fn n_Z6 (.cons (.ptr (.cons yI .nil)) .nil)) b)::(zd 5 (.c (.d yI e)::(.c (.d yI f)::(zd 10 [])))))),(zo 21 [])⟩) fun st => q0_4 R N n st (q0_5 R (q0_2 R N (kTop E sg_Z76 F_Z76)))
theorem Z77.l0_succ (R:Run) (hw:R.ok) (N n:Nat) (a:(List Int)) (b:((Int × Unit) × Unit)) (c d:Int):Z77.l0 R N (n + 1) a b c d = (bif (decide (d < c)) then ((idx? a d).bind fun y5 => ((callT R n_Z6 o_Z6 [⟨yI,(y5,()).1⟩,⟨(.ptr (.cons yI .nil)),b.1⟩]).bind fun r6 => (bif r6.1 then some ⟨o_Z76,(d,())⟩ else (Z77.l0 R N n a b c (w64 (d + (1:Int))))))) else some ⟨o_Z76,((-1:Int),())⟩) := (hw _ _).trans (by kernel_rfl)
theorem Z77.ev (R:Run) (N:Nat) (a0:(List Int)) (a1:((Int × Unit) × Unit)):evFn E R sg_Z76 pol_Z76 F_Z76 N [⟨yL,a0⟩,⟨(.fn n_Z6 (.cons (.ptr (.cons yI .nil)) .nil)),a1⟩] = (Z77.l0 R N N a0 a1 (List.length a0:Int) (0:Int)) := by kernel_rfl
theorem Z69.ev (R:Run) (N:Nat) (a0:(List Int)) (a1:((Int × Unit) × Unit)):evFn E R sg_Z68 pol_Z68 F_Z68 N [⟨yL,a0⟩,⟨(.fn n_Z6 (.cons (.ptr (.cons yI .nil)) .nil)),a1⟩] = ((callT R n_Z76 o_Z76 [⟨yL,a0⟩,⟨(.fn n_Z6 (.cons (.ptr (.cons yI .nil)) .nil)),a1⟩]).bind fun r1 => some ⟨o_Z68,((decide (r1.1 ≥ (0:Int))),())⟩) := by kernel_rfl
noncomputable def Z19.l0 (R:Run) (N n:Nat) (a b e:Int) (f:(List Int)):Option Dv := R.w (some ⟨(V.dead::(.c (.d yI a)::(zd 3 (.c (.arr 14)::(V.dead::(V.dead::(.c (.d yI b)::(.c (.d yI e)::(zd 7 []))))))))),(zo 14 (some (.arr yI f true false false)::(zo 4 [])))⟩) fun st => lC R pol_Z19 3 N [1,1,0,1,0,0] F_Z19 n st (kB R pol_Z19 0 (kS R pol_Z19 6 N [1,1,1] F_Z19 (kTop E sg_Z19 F_Z19)))
theorem Z19.l0_succ (R:Run) (hw:R.ok) (N n:Nat) (a b c:Int) (d:(List Int)):Z19.l0 R N (n + 1) a b c d = (bif (decide (c < b)) then ((chk (decide ((List.length d + List.length [a]) * 8 ≤ 70368744177664))).bind fun _ => (Z19.l0 R N n a b (w64 (c + (1:Int))) (d ++ [a]))) else some ⟨o_Z19,(d,())⟩) := (hw _ _).trans (by kernel_rfl)
theorem Z19.ev (R:Run) (N:Nat) (a0:vK) (a1:Int):evFn E R sg_Z19 pol_Z19 F_Z19 N [⟨yK,a0⟩,⟨yI,a1⟩] = (Z19.l0 R N N a1 (List.length a0:Int) (0:Int) ([]:List Int)) := by kernel_rfl
theorem Z14.ev (R:Run) (N:Nat) (a0:Int):evFn E R sg_Z14 pol_Z14 F_Z14 N [⟨yI,a0⟩] = ((callT R n_Z36 o_Z36 [⟨yI,a0⟩,⟨yI,(0:Int)⟩,⟨yI,(3:Int)⟩]).bind fun r1 => some ⟨o_Z14,((!r1.1),())⟩) := by kernel_rfl
noncomputable def Z79.l0 (R:Run) (N n:Nat) (a:(List Int)) (b e:Int):Option Dv := R.w (some ⟨(.c (.d yL a)::(.c (.d (.fn n_Z14 .nil) ())::(zd 5 (.c (.d yI b)::(.c (.d yI e)::(zd 10 [])))))),(zo 21 [])⟩) fun st => q0_4 R N n st (q0_5 R (q0_2 R N (kTop E sg_Z76 F_Z76)))
theorem Z79.l0_succ (R:Run) (hw:R.ok) (N n:Nat) (a:(List Int)) (b c:Int):Z79.l0 R N (n + 1) a b c = (bif (decide (c < b)) then ((idx? a c).bind fun y4 => ((callT R n_Z14 o_Z14 [⟨yI,(y4,()).1⟩]).bind fun r5 => (bif r5.1 then some ⟨o_Z76,(c,())⟩ else (Z79.l0 R N n a b (w64 (c + (1:Int))))))) else some ⟨o_Z76,((-1:Int),())⟩) := (hw _ _).trans (by kernel_rfl)
theorem Z79.ev (R:Run) (N:Nat) (a0:(List Int)):evFn E R sg_Z76 pol_Z76 F_Z76 N [⟨yL,a0⟩,⟨(.fn n_Z14 .nil),()⟩] = (Z79.l0 R N N a0 (List.length a0:Int) (0:Int)) := by kernel_rfl
theorem Z71.ev (R:Run) (N:Nat) (a0:(List Int)):evFn E R sg_Z68 pol_Z68 F_Z68 N [⟨yL,a0⟩,⟨(.fn n_Z14 .nil),()⟩] = ((callT R n_Z76 o_Z76 [⟨yL,a0⟩,⟨(.fn n_Z14 .nil),()⟩]).bind fun r1 => some ⟨o_Z68,((decide (r1.1 ≥ (0:Int))),())⟩) := by kernel_rfl
noncomputable def Z33.l0 (R:Run) (N n:Nat) (a:Int) (b:(List Int)) (e f:Int) (g:vK) (h:Int) (i:(List Int)) (j:vN):Option Dv := R.w (some ⟨(V.dead::(V.dead::(.c (.box 2 0)::(V.dead::(V.dead::(.c (.d yI a)::(zd 5 (.c (.d yL b)::(.c (.d yI e)::(.c (.d yI f)::(zd 12 []))))))))))),(none::(none::(some (.box [.d yK g,.d yI h,.d yL i,.d yN j] false false)::(zo 28 []))))⟩) fun st => lC R pol_Z33 3 N [1,1,0,1,0,0] F_Z33 n st (kB R pol_Z33 0 (kS R pol_Z33 7 N [1,1,1] F_Z33 (kTop E sg_Z33 F_Z33)))
theorem Z33.l0_succ (R:Run) (hw:R.ok) (N n:Nat) (a:Int) (b:(List Int)) (c d:Int) (e:vK) (f:Int) (g:(List Int)) (h:vN):Z33.l0 R N (n + 1) a b c d e f g h = (bif (decide (d < c)) then ((idx? b d).bind fun y10 => ((idx? g (y10,()).1).bind fun y11 => (Z33.l0 R N n (w64 (a + (y11,()).1)) b c (w64 (d + (1:Int))) e f g h))) else some ⟨o_Z33,(a,())⟩) := (hw _ _).trans (by kernel_rfl)
theorem Z33.ev (R:Run) (N:Nat) (a0:vK) (a1:Int) (a2:(List Int)) (a3:vN) (a4:Int):evFn E R sg_Z33 pol_Z33 F_Z33 N [⟨yK,a0⟩,⟨yI,a1⟩,⟨yL,a2⟩,⟨yN,a3⟩,⟨yI,a4⟩] = ((callT R n_Z30 o_Z30 [⟨yK,a0⟩,⟨yI,a4⟩]).bind fun r1 => (Z33.l0 R N N (0:Int) r1.1 (List.length r1.1:Int) (0:Int) a0 a1 a2 a3)) := by kernel_rfl
noncomputable def Z13.l1 (R:Run) (N n:Nat) (a:(List Int)) (b:Int) (e:vK):Option Dv := R.w (some ⟨(V.dead::(.c (.d yL a)::(.c (.box 2 0)::(zd 13 (.c (.d yI b)::(zd 9 [])))))),(none::(none::(some (.box [.d yK e] false false)::(zo 25 []))))⟩) fun st => lC R pol_Z13 4 N [1,1,0,1,0,0] F_Z13 n st (kB R pol_Z13 0 (kS R pol_Z13 9 N [1,1,1] F_Z13 (kTop E sg_Z13 F_Z13)))
noncomputable def Z13.j0 (R:Run) (N:Nat) (a:(List Int)) (b:Bool) (e:vK):Option Dv := R.w (some ⟨(V.dead::(.c (.d yL a)::(.c (.box 2 0)::(zd 12 (.c (.d .bool b)::(zd 10 [])))))),(none::(none::(some (.box [.d yK e] false false)::(zo 25 []))))⟩) fun st => eC R pol_Z13 N [1,0,1] F_Z13 st (kS R pol_Z13 3 N [1,1] F_Z13 (kTop E sg_Z13 F_Z13))
theorem Z13.l1_succ (R:Run) (hw:R.ok) (N n:Nat) (a:(List Int)) (b:Int) (c:vK):Z13.l1 R N (n + 1) a b c = (bif (decide (b < (4:Int))) then ((callT R n_Z33 o_Z33 [⟨yK,c⟩,⟨yI,(0:Int)⟩,⟨yL,a⟩,⟨yN,([]:List vM)⟩,⟨yI,b⟩]).bind fun r7 => (bif (decide (r7.1 > (32:Int))) then some ⟨o_Z13,(false,())⟩ else (Z13.l1 R N n a (w64 (b + (1:Int))) c))) else some ⟨o_Z13,(true,())⟩) := (hw _ _).trans (by kernel_rfl)
theorem Z13.j0_eq (R:Run) (hw:R.ok) (N:Nat) (a:(List Int)) (b:Bool) (c:vK):Z13.j0 R N a b c = (bif b then some ⟨o_Z13,(false,())⟩ else (Z13.l1 R N N a (0:Int) c)) := (hw _ _).trans (by kernel_rfl)
theorem Z13.ev (R:Run) (N:Nat) (a0:vK) (a1:(List Int)):evFn E R sg_Z13 pol_Z13 F_Z13 N [⟨yK,a0⟩,⟨yL,a1⟩] = (bif ((List.length a1:Int) != (List.length a0:Int)) then (Z13.j0 R N a1 true a0) else ((callT R n_Z68 o_Z68 [⟨yL,a1⟩,⟨(.fn n_Z14 .nil),()⟩]).bind fun r11 => (Z13.j0 R N a1 r11.1 a0))) := by kernel_rfl
noncomputable def Z62.j0 (R:Run) (N:Nat) (a:(List Int)) (b:Bool):Option Dv := R.w (some ⟨(.c (.d yL a)::(zd 3 (.c (.d .bool b)::(zd 3 [])))),(zo 9 [])⟩) fun st => eC R pol_Z62 N [1,0,1] F_Z62 st (kS R pol_Z62 3 N [1,1] F_Z62 (kTop E sg_Z62 F_Z62))
theorem Z62.j0_eq (R:Run) (hw:R.ok) (N:Nat) (a:(List Int)) (b:Bool):Z62.j0 R N a b = (bif b then some ⟨o_Z62,(([]:List Int),())⟩ else ((chk (decide ((List.length ([]:List Int) + List.length a) * 8 ≤ 70368744177664))).bind fun _ => some ⟨o_Z62,((([]:List Int) ++ a),())⟩)) := (hw _ _).trans (by kernel_rfl)
theorem Z62.ev (R:Run) (N:Nat) (a0:(List Int)):evFn E R sg_Z62 pol_Z62 F_Z62 N [⟨yL,a0⟩] = (bif (List.isEmpty a0) then (both (Z62.j0 R N a0 true) (Z62.j0 R N a0 false)) else (Z62.j0 R N a0 false)) := by kernel_rfl
noncomputable def Z17.l0 (R:Run) (N n:Nat) (a:vK) (b e:Int) (f:vK):Option Dv := R.w (some ⟨(zd 3 (.c (.arr 16)::(V.dead::(V.dead::(.c (.d yK a)::(.c (.d yI b)::(.c (.d yI e)::(zd 10 [])))))))),(zo 16 (some (.arr yL f true false false)::(zo 4 [])))⟩) fun st => lC R pol_Z17 3 N [1,1,0,1,0,0] F_Z17 n st (kB R pol_Z17 0 (kS R pol_Z17 7 N [1,1,1] F_Z17 (kTop E sg_Z17 F_Z17)))
theorem Z17.l0_succ (R:Run) (hw:R.ok) (N n:Nat) (a:vK) (b c:Int) (d:vK):Z17.l0 R N (n + 1) a b c d = (bif (decide (c < b)) then ((idx? a c).bind fun y5 => ((callT R n_Z62 o_Z62 [⟨yL,(y5,()).1⟩]).bind fun r6 => ((chk (decide ((List.length d + List.length [r6.1]) * 24 ≤ 70368744177664))).bind fun _ => (Z17.l0 R N n a b (w64 (c + (1:Int))) (d ++ [r6.1]))))) else some ⟨o_Z17,(d,())⟩) := (hw _ _).trans (by kernel_rfl)
theorem Z17.ev (R:Run) (N:Nat) (a0:vK):evFn E R sg_Z17 pol_Z17 F_Z17 N [⟨yK,a0⟩] = (Z17.l0 R N N a0 (List.length a0:Int) (0:Int) ([]:List (List Int))) := by kernel_rfl
noncomputable def Z72.l0 (R:Run) (N n:Nat) (a b:(List Int)) (e f:Int):Option Dv := R.w (some ⟨(.c (.d yL a)::(.c (.d yL b)::(zd 10 (.c (.d yI e)::(.c (.d yI f)::(zd 12 [])))))),(zo 28 [])⟩) fun st => lC R pol_Z72 4 N [1,1,0,1,0,0] F_Z72 n st (kB R pol_Z72 0 (kS R pol_Z72 9 N [1,1,1] F_Z72 (kTop E sg_Z72 F_Z72)))
theorem Z72.l0_succ (R:Run) (hw:R.ok) (N n:Nat) (a b:(List Int)) (c d:Int):Z72.l0 R N (n + 1) a b c d = (bif (decide (d < c)) then ((idx? a d).bind fun y5 => ((idx? b d).bind fun y6 => (bif ((y5,()).1 != (y6,()).1) then some ⟨o_Z72,(false,())⟩ else (Z72.l0 R N n a b c (w64 (d + (1:Int))))))) else some ⟨o_Z72,(true,())⟩) := (hw _ _).trans (by kernel_rfl)
theorem Z72.ev (R:Run) (N:Nat) (a0 a1:(List Int)):evFn E R sg_Z72 pol_Z72 F_Z72 N [⟨yL,a0⟩,⟨yL,a1⟩] = (bif ((List.length a0:Int) != (List.length a1:Int)) then some ⟨o_Z72,(false,())⟩ else (Z72.l0 R N N a0 a1 (List.length a0:Int) (0:Int))) := by kernel_rfl
theorem Z24.ev (R:Run) (N:Nat) (a0:vK):evFn E R sg_Z24 pol_Z24 F_Z24 N [⟨yK,a0⟩] = ((callT R n_Z17 o_Z17 [⟨yK,a0⟩]).bind fun r1 => ((callT R n_Z81 o_Z81 [⟨yK,r1.1⟩,⟨(.fn n_Z16 .nil),()⟩]).bind fun r2 => ((callT R n_Z63 o_Z63 [⟨yK,r2.1⟩,⟨(.fn n_Z72 .nil),()⟩]).bind fun r3 => some ⟨o_Z24,(r3.1,())⟩))) := by kernel_rfl
theorem Z31.ev (R:Run) (N:Nat) (a0:vK):evFn E R sg_Z31 pol_Z31 F_Z31 N [⟨yK,a0⟩] = some ⟨o_Z31,((List.length a0:Int),())⟩ := by kernel_rfl
noncomputable def Z20.l0 (R:Run) (N n:Nat) (a:vK) (b e:Int) (f:vK) (g:(List Int)):Option Dv := R.w (some ⟨(V.dead::(V.dead::(.c (.box 2 0)::(V.dead::(V.dead::(.c (.arr 24)::(zd 7 (.c (.d yK a)::(.c (.d yI b)::(.c (.d yI e)::(zd 11 []))))))))))),(none::(none::(some (.box [.d yK f] false false)::(zo 21 (some (.arr yI g true false false)::(zo 4 []))))))⟩) fun st => lC R pol_Z20 3 N [1,1,0,1,0,0] F_Z20 n st (kB R pol_Z20 0 (kS R pol_Z20 7 N [1,1,1] F_Z20 (kTop E sg_Z20 F_Z20)))
theorem Z20.l0_succ (R:Run) (hw:R.ok) (N n:Nat) (a:vK) (b c:Int) (d:vK) (e:(List Int)):Z20.l0 R N (n + 1) a b c d e = (bif (decide (c < b)) then ((idx? a c).bind fun y8 => ((callT R n_Z25 o_Z25 [⟨yK,d⟩,⟨yL,(y8,()).1⟩]).bind fun r9 => ((chk (decide ((List.length e + List.length [r9.1]) * 8 ≤ 70368744177664))).bind fun _ => (Z20.l0 R N n a b (w64 (c + (1:Int))) d (e ++ [r9.1]))))) else some ⟨o_Z20,(e,())⟩) := (hw _ _).trans (by kernel_rfl)
theorem Z20.ev (R:Run) (N:Nat) (a0:vK) (a1:Int):evFn E R sg_Z20 pol_Z20 F_Z20 N [⟨yK,a0⟩,⟨yI,a1⟩] = ((idx? a0 a1).bind fun y1 => ((callT R n_Z21 o_Z21 [⟨yL,(y1,()).1⟩]).bind fun r2 => (Z20.l0 R N N r2.1 (List.length r2.1:Int) (0:Int) a0 ([]:List Int)))) := by kernel_rfl
end VeT

open Go Go.Proofs Ve
set_option linter.unusedVariables false
set_option maxRecDepth 100000
namespace VeT
noncomputable def Z15.l1 (R:Run) (N a n:Nat) (b e f:Int) (g:(List Int)) (h i:Int) (j:vK) (k:(List (Int × Int × Int × Unit))):Option Dv := R.w (some ⟨(V.dead::(.c (.box 1 0)::(V.dead::(.c (.arr 28)::(.c (.d yI b)::(zd 4 (.c (.d yI e)::(.c (.d yI f)::(zd 4 (.c (.d yL g)::(.c (.d yI h)::(.c (.d yI i)::(zd 14 []))))))))))))),(none::(some (.box [.d yK j] false false)::(zo 26 (some (.arr (.st (.cons yI (.cons yI (.cons yI .nil)))) k true false false)::(zo 4 [])))))⟩) fun st => lC R pol_Z15 6 N [1,1,0,1,0,0,1,1,0,0,1,1,0,0] F_Z15 n st (kB R pol_Z15 2 (kB R pol_Z15 1 (kS R pol_Z15 10 N [1,1,0,1,0,0,1,1,1] F_Z15 (kL R pol_Z15 3 N [1,1,0,1,0,0] F_Z15 a (kB R pol_Z15 0 (kS R pol_Z15 11 N [1,1,1] F_Z15 (kTop E sg_Z15 F_Z15)))))))
noncomputable def Z15.l0 (R:Run) (N n:Nat) (a b:Int) (e:vK) (f:(List (Int × Int × Int × Unit))):Option Dv := R.w (some ⟨(V.dead::(.c (.box 1 0)::(V.dead::(.c (.arr 28)::(zd 5 (.c (.d yI a)::(.c (.d yI b)::(zd 21 [])))))))),(none::(some (.box [.d yK e] false false)::(zo 26 (some (.arr (.st (.cons yI (.cons yI (.cons yI .nil)))) f true false false)::(zo 4 [])))))⟩) fun st => lC R pol_Z15 3 N [1,1,0,1,0,0] F_Z15 n st (kB R pol_Z15 0 (kS R pol_Z15 11 N [1,1,1] F_Z15 (kTop E sg_Z15 F_Z15)))
theorem Z15.l1_succ (R:Run) (hw:R.ok) (N a n:Nat) (b c d:Int) (e:(List Int)) (f g:Int) (h:vK) (i:(List (Int × Int × Int × Unit))):Z15.l1 R N a (n + 1) b c d e f g h i = (bif (decide (g < f)) then ((idx? e g).bind fun y15 => ((chk (decide ((List.length i + List.length [(b,g,(y15,()).1,())]) * 24 ≤ 70368744177664))).bind fun _ => (Z15.l1 R N a n b c d e f (w64 (g + (1:Int))) h (i ++ [(b,g,(y15,()).1,())])))) else (Z15.l0 R N a c (w64 (d + (1:Int))) h i)) := (hw _ _).trans (by kernel_rfl)
theorem Z15.l0_succ (R:Run) (hw:R.ok) (N n:Nat) (a b:Int) (c:vK) (d:(List (Int × Int × Int × Unit))):Z15.l0 R N (n + 1) a b c d = (bif (decide (b < a)) then ((callT R n_Z20 o_Z20 [⟨yK,c⟩,⟨yI,b⟩]).bind fun r6 => (Z15.l1 R N n N b a b r6.1 (List.length r6.1:Int) (0:Int) c d)) else some ⟨o_Z15,(d,())⟩) := (hw _ _).trans (by kernel_rfl)
theorem Z15.ev (R:Run) (N:Nat) (a0:vK):evFn E R sg_Z15 pol_Z15 F_Z15 N [⟨yK,a0⟩] = ((callT R n_Z31 o_Z31 [⟨yK,a0⟩]).bind fun r1 => (Z15.l0 R N N r1.1 (0:Int) a0 ([]:List (Int × Int × Int × Unit)))) := by kernel_rfl
theorem Z35.ev (R:Run) (N:Nat) (a0 a1:Int):evFn E R sg_Z35 pol_Z35 F_Z35 N [⟨yI,a0⟩,⟨yI,a1⟩] = (bif (a0 == a1) then some ⟨o_Z35,((1:Int),())⟩ else some ⟨o_Z35,((0:Int),())⟩) := by kernel_rfl
noncomputable def Z23.l1 (R:Run) (N a n:Nat) (b e f g h i j k l m o p:Int) (q:(List Int)):Option Dv := R.w (some ⟨(V.dead::(V.dead::(.c (.d yI b)::(.c (.d (.fn n_Z35 .nil) ())::(zd 4 (.c (.box 8 0)::(.c (.box 9 0)::(.c (.d yI e)::(zd 5 (.c (.d yI f)::(.c (.d yI g)::(V.dead::(V.dead::(.c (.d yI h)::(.c (.d yI i)::(zd 14 [])))))))))))))))),(zo 8 (some (.box [.d yI j,.d yI k,.d yI l,.nils yI] false false)::(some (.box [.d yI m,.d yI o,.d yI p,.arr 31] false false)::(zo 21 (some (.arr yI q true false false)::(zo 8 []))))))⟩) fun st => lC R pol_Z22 6 N [1,1,0,1,0,0,1,1,0,0,1,1,0,0] F_Z22 n st (kB R pol_Z22 2 (kB R pol_Z22 1 (kS R pol_Z22 10 N [1,1,0,1,0,0,1,1,1] F_Z22 (kL R pol_Z22 3 N [1,1,0,1,0,0] F_Z22 a (kB R pol_Z22 0 (kS R pol_Z22 11 N [1,1,1] F_Z22 (kTop E sg_Z22 F_Z22)))))))
noncomputable def Z23.l0 (R:Run) (N n:Nat) (a b e f g h i j k:Int) (l:(List Int)):Option Dv := R.w (some ⟨(V.dead::(V.dead::(.c (.d yI a)::(.c (.d (.fn n_Z35 .nil) ())::(zd 4 (.c (.box 8 0)::(.c (.box 9 0)::(zd 6 (.c (.d yI b)::(.c (.d yI e)::(zd 18 []))))))))))),(zo 8 (some (.box [.d yI f,.d yI g,.d yI h,.nils yI] false false)::(some (.box [.d yI i,.d yI j,.d yI k,.arr 31] false false)::(zo 21 (some (.arr yI l true false false)::(zo 8 []))))))⟩) fun st => lC R pol_Z22 3 N [1,1,0,1,0,0] F_Z22 n st (kB R pol_Z22 0 (kS R pol_Z22 11 N [1,1,1] F_Z22 (kTop E sg_Z22 F_Z22)))
theorem Z23.l1_succ (R:Run) (hw:R.ok) (N a n:Nat) (b c d e f g h i j k l m:Int) (o:(List Int)):Z23.l1 R N a (n + 1) b c d e f g h i j k l m o = (bif (decide (g < f)) then ((callT R n_Z35 o_Z35 [⟨yI,c⟩,⟨yI,g⟩]).bind fun r24 => ((chk (decide ((List.length o + List.length [r24.1]) * 8 ≤ 70368744177664))).bind fun _ => (Z23.l1 R N a n b c d e f (w64 (g + (1:Int))) h i j k l m (o ++ [r24.1])))) else (Z23.l0 R N a b d (w64 (e + (1:Int))) h i j k l m o)) := (hw _ _).trans (by kernel_rfl)
theorem Z23.l0_succ (R:Run) (hw:R.ok) (N n:Nat) (a b c d e f g h i:Int) (j:(List Int)):Z23.l0 R N (n + 1) a b c d e f g h i j = (bif (decide (c < b)) then (Z23.l1 R N n N a c b c a (0:Int) d e f g h i j) else some ⟨o_Z22,(g,h,i,j,())⟩) := (hw _ _).trans (by kernel_rfl)
theorem Z23.ev (R:Run) (N:Nat) (a0 a1 a2:Int):evFn E R sg_Z22 pol_Z22 F_Z22 N [⟨yI,a0⟩,⟨yI,a1⟩,⟨yI,a2⟩,⟨(.fn n_Z35 .nil),()⟩] = (Z23.l0 R N N a2 a1 (0:Int) (0:Int) (0:Int) (0:Int) a0 a1 a2 ([]:List Int)) := by kernel_rfl
theorem Z34.ev (R:Run) (N:Nat) (a0 a1:Int):evFn E R sg_Z34 pol_Z34 F_Z34 N [⟨yI,a0⟩,⟨yI,a1⟩] = ((callT R n_Z22 o_Z22 [⟨yI,a0⟩,⟨yI,a1⟩,⟨yI,a1⟩,⟨(.fn n_Z35 .nil),()⟩]).bind fun r1 => some ⟨o_Z34,(r1.1,r1.2.1,r1.2.2.1,r1.2.2.2.1,())⟩) := by kernel_rfl
noncomputable def Z80.l0 (R:Run) (N n:Nat) (a:(List Int)) (b e f:Int):Option Dv := R.w (some ⟨(.c (.d yL a)::(.c (.d yI b)::(zd 5 (.c (.d yI e)::(.c (.d yI f)::(zd 10 [])))))),(zo 21 [])⟩) fun st => lC R pol_Z80 2 N [1,0,1,0,0] F_Z80 n st (kB R pol_Z80 0 (kS R pol_Z80 7 N [1,1] F_Z80 (kTop E sg_Z80 F_Z80)))
theorem Z80.l0_succ (R:Run) (hw:R.ok) (N n:Nat) (a:(List Int)) (b c d:Int):Z80.l0 R N (n + 1) a b c d = (bif (decide (d < c)) then ((idx? a d).bind fun y5 => (bif (b == (y5,()).1) then some ⟨o_Z80,(d,())⟩ else (Z80.l0 R N n a b c (w64 (d + (1:Int)))))) else some ⟨o_Z80,((-1:Int),())⟩) := (hw _ _).trans (by kernel_rfl)
theorem Z80.ev (R:Run) (N:Nat) (a0:(List Int)) (a1:Int):evFn E R sg_Z80 pol_Z80 F_Z80 N [⟨yL,a0⟩,⟨yI,a1⟩] = (Z80.l0 R N N a0 a1 (List.length a0:Int) (0:Int)) := by kernel_rfl
theorem Z7.ev (R:Run) (N:Nat) (a0 a1 a2:Int) (a3:(Int × Unit)) (a4:(vK × Unit)) (a5 a6:((List Int) × Unit)):evFn E R sg_Z7 pol_Z7 F_Z7 N [⟨yI,a0⟩,⟨yI,a1⟩,⟨yI,a2⟩,⟨(.ptr (.cons yI .nil)),a3⟩,⟨(.ptr (.cons yK .nil)),a4⟩,⟨(.ptr (.cons yL .nil)),a5⟩,⟨(.ptr (.cons yL .nil)),a6⟩] = (bif (decide (a1 > (0:Int))) then ((callT R n_Z34 o_Z34 [⟨yI,a3.1⟩,⟨yI,(1:Int)⟩]).bind fun r1 => some ⟨o_Z7,(r1.1,r1.2.1,r1.2.2.1,r1.2.2.2.1,())⟩) else ((idx? a4.1 a0).bind fun y2 => ((chk (decide (0 ≤ (2:Int)) && decide ((2:Int) ≤ (List.length (y2,()).1:Int)))).bind fun _ => ((callT R n_Z25 o_Z25 [⟨yK,a4.1⟩,⟨yL,(List.take (Int.toNat (2:Int)) (y2,()).1)⟩]).bind fun r3 => ((callT R n_Z80 o_Z80 [⟨yL,a6.1⟩,⟨yI,r3.1⟩]).bind fun r4 => ((idx? a5.1 r4.1).bind fun y5 => some ⟨o_Z7,(a3.1,(1:Int),(1:Int),[(y5,()).1],())⟩)))))) := by kernel_rfl
theorem Z18.ev (R:Run) (N:Nat) (a0 a1 a2:Int) (a3:(List Int)):evFn E R sg_Z18 pol_Z18 F_Z18 N [⟨yI,a0⟩,⟨yI,a1⟩,⟨yI,a2⟩,⟨yL,a3⟩] = ((callT R n_Z62 o_Z62 [⟨yL,a3⟩]).bind fun r1 => some ⟨o_Z18,(a0,a1,a2,r1.1,())⟩) := by kernel_rfl
noncomputable def Z29.l0 (R:Run) (N n:Nat) (a:((Int × Unit) × (vK × Unit) × ((List Int) × Unit) × ((List Int) × Unit) × Unit)) (b:(List (Int × Int × Int × Unit))) (e f g h:Int) (i:vN) (j:vK) (k:(List Int)):Option Dv := R.w (some ⟨(zd 3 (.c (.d (.fn n_Z7 (.cons (.ptr (.cons yI .nil)) (.cons (.ptr (.cons yK .nil)) (.cons (.ptr (.cons yL .nil)) (.cons (.ptr (.cons yL .nil)) .nil))))) a)::(zd 4 (.c (.box 8 0)::(.c (.box 9 0)::(zd 10 (.c (.d (.sl (.st (.cons yI (.cons yI (.cons yI .nil))))) b)::(.c (.d yI e)::(.c (.d yI f)::(zd 14 [])))))))))),(zo 8 (some (.box [.nils yL,.d yI g,.nils yI,.nils (.st yM)] false false)::(some (.box [.arr 42,.d yI h,.arr 43,.arr 33] false false)::(zo 23 (some (.arr (.st yM) i true false false)::(zo 8 (some (.arr yL j true false false)::(some (.arr yI k true false false)::[]))))))))⟩) fun st => lC R pol_Z28 3 N [1,1,0,1,0,0] F_Z28 n st (kB R pol_Z28 0 (kS R pol_Z28 7 N [1,1,1] F_Z28 (kTop E sg_Z28 F_Z28)))
theorem Z29.l0_succ (R:Run) (hw:R.ok) (N n:Nat) (a:((Int × Unit) × (vK × Unit) × ((List Int) × Unit) × ((List Int) × Unit) × Unit)) (b:(List (Int × Int × Int × Unit))) (c d e f:Int) (g:vN) (h:vK) (i:(List Int)):Z29.l0 R N (n + 1) a b c d e f g h i = (bif (decide (d < c)) then ((idx? b d).bind fun y13 => ((callT R n_Z7 o_Z7 [⟨yI,y13.1⟩,⟨yI,y13.2.1⟩,⟨yI,y13.2.2.1⟩,⟨(.ptr (.cons yI .nil)),a.1⟩,⟨(.ptr (.cons yK .nil)),a.2.1⟩,⟨(.ptr (.cons yL .nil)),a.2.2.1⟩,⟨(.ptr (.cons yL .nil)),a.2.2.2.1⟩]).bind fun r14 => ((callT R n_Z18 o_Z18 [⟨yI,r14.1⟩,⟨yI,r14.2.1⟩,⟨yI,r14.2.2.1⟩,⟨yL,r14.2.2.2.1⟩]).bind fun r15 => ((chk (decide ((List.length g + List.length [(r15.1,r15.2.1,r15.2.2.1,r15.2.2.2.1,())]) * 48 ≤ 70368744177664))).bind fun _ => (Z29.l0 R N n a b c (w64 (d + (1:Int))) e f (g ++ [(r15.1,r15.2.1,r15.2.2.1,r15.2.2.2.1,())]) h i))))) else some ⟨o_Z28,(h,f,i,g,())⟩) := (hw _ _).trans (by kernel_rfl)
theorem Z29.ev (R:Run) (N:Nat) (a0:vK) (a1:Int) (a2:(List Int)) (a3:((Int × Unit) × (vK × Unit) × ((List Int) × Unit) × ((List Int) × Unit) × Unit)):evFn E R sg_Z28 pol_Z28 F_Z28 N [⟨yK,a0⟩,⟨yI,a1⟩,⟨yL,a2⟩,⟨(.fn n_Z7 (.cons (.ptr (.cons yI .nil)) (.cons (.ptr (.cons yK .nil)) (.cons (.ptr (.cons yL .nil)) (.cons (.ptr (.cons yL .nil)) .nil))))),a3⟩] = ((callT R n_Z24 o_Z24 [⟨yK,a0⟩]).bind fun r1 => ((callT R n_Z62 o_Z62 [⟨yL,a2⟩]).bind fun r2 => ((callT R n_Z15 o_Z15 [⟨yK,a0⟩]).bind fun r3 => (Z29.l0 R N N a3 r3.1 (List.length r3.1:Int) (0:Int) (0:Int) a1 ([]:List vM) r1.1 r2.1)))) := by kernel_rfl
noncomputable def Z5.j1 (R:Run) (N:Nat) (a:Bool) (b:vK) (e:Int) (f:(List Int)) (g:Int) (h:(List Int)):Option Dv := R.w (some ⟨(zd 3 (.c (.box 3 0)::(.c (.box 4 0)::(.c (.box 5 0)::(.c (.box 6 0)::(V.dead::(.c (.box 8 0)::(zd 21 (.c (.d .bool a)::(zd 13 [])))))))))),(zo 3 (some (.box [.d yK b] false false)::(some (.box [.d yI e] true false)::(some (.box [.d yL f] false false)::(some (.box [.nils yL,.d yI g,.nils yI,.nils (.st yM)] false false)::(none::(some (.box [.d yL h] false false)::(zo 41 []))))))))⟩) fun st => eC R pol_Z5 N [1,1,1,0,1] F_Z5 st (kS R pol_Z5 6 N [1,1,1,1] F_Z5 (kTop E sg_Z5 F_Z5))
noncomputable def Z5.j0 (R:Run) (N:Nat) (a:Bool) (b:vK) (e:Int) (f:(List Int)) (g:Int):Option Dv := R.w (some ⟨(zd 3 (.c (.box 3 0)::(.c (.box 4 0)::(.c (.box 5 0)::(.c (.box 6 0)::(zd 10 (.c (.d .bool a)::(zd 26 [])))))))),(zo 3 (some (.box [.d yK b] false false)::(some (.box [.d yI e] false false)::(some (.box [.d yL f] false false)::(some (.box [.nils yL,.d yI g,.nils yI,.nils (.st yM)] false false)::(zo 43 []))))))⟩) fun st => eC R pol_Z5 N [1,0,1] F_Z5 st (kS R pol_Z5 3 N [1,1] F_Z5 (kTop E sg_Z5 F_Z5))
theorem Z5.j1_eq (R:Run) (hw:R.ok) (N:Nat) (a:Bool) (b:vK) (c:Int) (d:(List Int)) (e:Int) (f:(List Int)):Z5.j1 R N a b c d e f = (bif a then some ⟨o_Z5,(([]:List (List Int)),(0:Int),([]:List Int),([]:List vM),(7:Int),())⟩ else ((callT R n_Z19 o_Z19 [⟨yK,b⟩,⟨yI,(1:Int)⟩]).bind fun r14 => ((callT R n_Z13 o_Z13 [⟨yK,b⟩,⟨yL,r14.1⟩]).bind fun r15 => (bif (!r15.1) then some ⟨o_Z5,(([]:List (List Int)),(0:Int),([]:List Int),([]:List vM),(5:Int),())⟩ else ((callT R n_Z28 o_Z28 [⟨yK,b⟩,⟨yI,c⟩,⟨yL,r14.1⟩,⟨(.fn n_Z7 (.cons (.ptr (.cons yI .nil)) (.cons (.ptr (.cons yK .nil)) (.cons (.ptr (.cons yL .nil)) (.cons (.ptr (.cons yL .nil)) .nil))))),((c,()),(b,()),(d,()),(f,()),())⟩]).bind fun r16 => some ⟨o_Z5,(r16.1,r16.2.1,r16.2.2.1,r16.2.2.2.1,(0:Int),())⟩))))) := (hw _ _).trans (by kernel_rfl)
theorem Z5.j0_eq (R:Run) (hw:R.ok) (N:Nat) (a:Bool) (b:vK) (c:Int) (d:(List Int)) (e:Int):Z5.j0 R N a b c d e = (bif a then some ⟨o_Z5,(([]:List (List Int)),(0:Int),([]:List Int),([]:List vM),(1:Int),())⟩ else ((callT R n_Z30 o_Z30 [⟨yK,b⟩,⟨yI,(1:Int)⟩]).bind fun r7 => (bif ((List.length d:Int) != (List.length r7.1:Int)) then (Z5.j1 R N true b c d e r7.1) else ((callT R n_Z68 o_Z68 [⟨yL,d⟩,⟨(.fn n_Z6 (.cons (.ptr (.cons yI .nil)) .nil)),((c,()),())⟩]).bind fun r17 => (Z5.j1 R N r17.1 b c d e r7.1))))) := (hw _ _).trans (by kernel_rfl)
theorem Z5.ev (R:Run) (N:Nat) (a0:vK) (a1:Int) (a2:(List Int)):evFn E R sg_Z5 pol_Z5 F_Z5 N [⟨yK,a0⟩,⟨yI,a1⟩,⟨yL,a2⟩] = ((callT R n_Z8 o_Z8 [⟨yK,a0⟩]).bind fun r1 => (bif (!r1.1) then (Z5.j0 R N true a0 a1 a2 (0:Int)) else ((callT R n_Z10 o_Z10 [⟨yI,a1⟩]).bind fun r24 => (Z5.j0 R N (!r24.1) a0 a1 a2 (0:Int))))) := by kernel_rfl
noncomputable def Z39.l0 (R:Run) (N n:Nat) (a b:(List Int)) (e:Int):Option Dv := R.w (some ⟨(.c (.d yL a)::(.c (.d yL b)::(zd 3 (.c (.d yI e)::(zd 20 []))))),(zo 28 [])⟩) fun st => lC R pol_Z39 4 N [1,1,0,1,0,0] F_Z39 n st (kB R pol_Z39 0 (kS R pol_Z39 8 N [1,1,1] F_Z39 (kTop E sg_Z39 F_Z39)))
theorem Z39.l0_succ (R:Run) (hw:R.ok) (N n:Nat) (a b:(List Int)) (c:Int):Z39.l0 R N (n + 1) a b c = (bif (decide (c < (List.length a:Int))) then ((idx? a c).bind fun y4 => ((idx? b c).bind fun y5 => (bif ((y4,()).1 != (y5,()).1) then some ⟨o_Z39,(false,())⟩ else (Z39.l0 R N n a b (w64 (c + (1:Int))))))) else some ⟨o_Z39,(true,())⟩) := (hw _ _).trans (by kernel_rfl)
theorem Z39.ev (R:Run) (N:Nat) (a0 a1:(List Int)):evFn E R sg_Z39 pol_Z39 F_Z39 N [⟨yL,a0⟩,⟨yL,a1⟩] = (bif ((List.length a0:Int) != (List.length a1:Int)) then some ⟨o_Z39,(false,())⟩ else (Z39.l0 R N N a0 a1 (0:Int))) := by kernel_rfl
noncomputable def Z40.l0 (R:Run) (N n:Nat) (a b:vK) (e:Int):Option Dv := R.w (some ⟨(.c (.d yK a)::(.c (.d yK b)::(zd 3 (.c (.d yI e)::(zd 21 []))))),(zo 29 [])⟩) fun st => lC R pol_Z40 4 N [1,1,0,1,0,0] F_Z40 n st (kB R pol_Z40 0 (kS R pol_Z40 8 N [1,1,1] F_Z40 (kTop E sg_Z40 F_Z40)))
theorem Z40.l0_succ (R:Run) (hw:R.ok) (N n:Nat) (a b:vK) (c:Int):Z40.l0 R N (n + 1) a b c = (bif (decide (c < (List.length a:Int))) then ((idx? a c).bind fun y4 => ((idx? b c).bind fun y5 => ((callT R n_Z39 o_Z39 [⟨yL,(y4,()).1⟩,⟨yL,(y5,()).1⟩]).bind fun r6 => (bif (!r6.1) then some ⟨o_Z40,(false,())⟩ else (Z40.l0 R N n a b (w64 (c + (1:Int)))))))) else some ⟨o_Z40,(true,())⟩) := (hw _ _).trans (by kernel_rfl)
theorem Z40.ev (R:Run) (N:Nat) (a0 a1:vK):evFn E R sg_Z40 pol_Z40 F_Z40 N [⟨yK,a0⟩,⟨yK,a1⟩] = (bif ((List.length a0:Int) != (List.length a1:Int)) then some ⟨o_Z40,(false,())⟩ else (Z40.l0 R N N a0 a1 (0:Int))) := by kernel_rfl
theorem Z38.ev (R:Run) (N:Nat) (a0 a1:vK):evFn E R sg_Z38 pol_Z38 F_Z38 N [⟨yK,a0⟩,⟨yK,a1⟩] = ((callT R n_Z40 o_Z40 [⟨yK,a0⟩,⟨yK,a1⟩]).bind fun r1 => (bif (!r1.1) then some ⟨o_Z38,(false,())⟩ else some ⟨o_Z38,(true,())⟩)) := by kernel_rfl
theorem Z41.ev (R:Run) (N:Nat) (a0 a1 a2:Int) (a3:(List Int)) (a4 a5 a6:Int) (a7:(List Int)):evFn E R sg_Z41 pol_Z41 F_Z41 N [⟨yI,a0⟩,⟨yI,a1⟩,⟨yI,a2⟩,⟨yL,a3⟩,⟨yI,a4⟩,⟨yI,a5⟩,⟨yI,a6⟩,⟨yL,a7⟩] = (bif (a0 != a4) then some ⟨o_Z41,(false,())⟩ else (bif (a1 != a5) then some ⟨o_Z41,(false,())⟩ else (bif (a2 != a6) then some ⟨o_Z41,(false,())⟩ else ((callT R n_Z39 o_Z39 [⟨yL,a3⟩,⟨yL,a7⟩]).bind fun r1 => (bif (!r1.1) then some ⟨o_Z41,(false,())⟩ else some ⟨o_Z41,(true,())⟩))))) := by kernel_rfl
noncomputable def Z42.l0 (R:Run) (N n:Nat) (a b:vN) (e:Int):Option Dv := R.w (some ⟨(.c (.d yN a)::(.c (.d yN b)::(zd 3 (.c (.d yI e)::(zd 21 []))))),(zo 29 [])⟩) fun st => lC R pol_Z42 4 N [1,1,0,1,0,0] F_Z42 n st (kB R pol_Z42 0 (kS R pol_Z42 8 N [1,1,1] F_Z42 (kTop E sg_Z42 F_Z42)))
theorem Z42.l0_succ (R:Run) (hw:R.ok) (N n:Nat) (a b:vN) (c:Int):Z42.l0 R N (n + 1) a b c = (bif (decide (c < (List.length a:Int))) then ((idx? a c).bind fun y4 => ((idx? b c).bind fun y5 => ((callT R n_Z41 o_Z41 [⟨yI,y4.1⟩,⟨yI,y4.2.1⟩,⟨yI,y4.2.2.1⟩,⟨yL,y4.2.2.2.1⟩,⟨yI,y5.1⟩,⟨yI,y5.2.1⟩,⟨yI,y5.2.2.1⟩,⟨yL,y5.2.2.2.1⟩]).bind fun r6 => (bif (!r6.1) then some ⟨o_Z42,(false,())⟩ else (Z42.l0 R N n a b (w64 (c + (1:Int)))))))) else some ⟨o_Z42,(true,())⟩) := (hw _ _).trans (by kernel_rfl)
theorem Z42.ev (R:Run) (N:Nat) (a0 a1:vN):evFn E R sg_Z42 pol_Z42 F_Z42 N [⟨yN,a0⟩,⟨yN,a1⟩] = (bif ((List.length a0:Int) != (List.length a1:Int)) then some ⟨o_Z42,(false,())⟩ else (Z42.l0 R N N a0 a1 (0:Int))) := by kernel_rfl
theorem Z43.ev (R:Run) (N:Nat) (a0:vK) (a1:Int) (a2:(List Int)) (a3:vN) (a4:vK) (a5:Int) (a6:(List Int)) (a7:vN):evFn E R sg_Z43 pol_Z43 F_Z43 N [⟨yK,a0⟩,⟨yI,a1⟩,⟨yL,a2⟩,⟨yN,a3⟩,⟨yK,a4⟩,⟨yI,a5⟩,⟨yL,a6⟩,⟨yN,a7⟩] = ((callT R n_Z38 o_Z38 [⟨yK,a0⟩,⟨yK,a4⟩]).bind fun r1 => (bif (!r1.1) then some ⟨o_Z43,(false,())⟩ else (bif (a1 != a5) then some ⟨o_Z43,(false,())⟩ else ((callT R n_Z39 o_Z39 [⟨yL,a2⟩,⟨yL,a6⟩]).bind fun r2 => (bif (!r2.1) then some ⟨o_Z43,(false,())⟩ else ((callT R n_Z42 o_Z42 [⟨yN,a3⟩,⟨yN,a7⟩]).bind fun r3 => (bif (!r3.1) then some ⟨o_Z43,(false,())⟩ else some ⟨o_Z43,(true,())⟩))))))) := by kernel_rfl
noncomputable def Z50.l0 (R:Run) (N n:Nat) (a b:Int) (e:(List Int)):Option Dv := R.w (some ⟨(.c (.arr 19)::(.c (.d yI a)::(zd 3 (.c (.d yI b)::(zd 13 []))))),(zo 19 (some (.arr yI e true false true)::(none::[])))⟩) fun st => lC R pol_Z50 2 N [1,0,1,0,0] F_Z50 n st (kB R pol_Z50 0 (kS R pol_Z50 6 N [1,1] F_Z50 (kTop E sg_Z50 F_Z50)))
theorem Z50.l0_succ (R:Run) (hw:R.ok) (N n:Nat) (a b:Int) (c:(List Int)):Z50.l0 R N (n + 1) a b c = (bif (decide (b < (List.length c:Int))) then ((chk (decide (0 ≤ b) && decide (b < (List.length c:Int)))).bind fun _ => (Z50.l0 R N n (w64 (a + (1:Int))) (w64 (b + (1:Int))) (List.set c (Int.toNat b) a))) else some ⟨o_Z50,(a,c,())⟩) := (hw _ _).trans (by kernel_rfl)
theorem Z50.ev (R:Run) (N:Nat) (a0:(List Int)) (a1:Int):evFn E R sg_Z50 pol_Z50 F_Z50 N [⟨yL,a0⟩,⟨yI,a1⟩] = (Z50.l0 R N N a1 (0:Int) a0) := by kernel_rfl
theorem Z49.ev (R:Run) (N:Nat) (a0:vK) (a1:Int):evFn E R sg_Z49 pol_Z49 F_Z49 N [⟨yK,a0⟩,⟨yI,a1⟩] = ((callT R n_Z51 o_Z51 [⟨yK,a0⟩,⟨yI,a1⟩]).bind fun r1 => some ⟨o_Z49,(r1.1,r1.2.1,())⟩) := by kernel_rfl
theorem Z53.ev (R:Run) (N:Nat) (a0:vK) (a1:Int) (a2:(List Int)) (a3:vN) (a4:Int):evFn E R sg_Z53 pol_Z53 F_Z53 N [⟨yK,a0⟩,⟨yI,a1⟩,⟨yL,a2⟩,⟨yN,a3⟩,⟨yI,a4⟩] = ((callT R n_Z49 o_Z49 [⟨yK,a0⟩,⟨yI,a4⟩]).bind fun r1 => ((callT R n_Z50 o_Z50 [⟨yL,a2⟩,⟨yI,r1.1⟩]).bind fun r2 => ((callT R n_Z52 o_Z52 [⟨yN,a3⟩,⟨yI,r2.1⟩]).bind fun r3 => some ⟨o_Z53,(r3.1,r1.2.1,r2.2.1,r3.2.1,())⟩))) := by kernel_rfl
noncomputable def Z45.l0 (R:Run) (N n:Nat) (a:(List Int)) (b e:Int):Option Dv := R.w (some ⟨(.c (.d yL a)::(.c (.d yI b)::(zd 3 (.c (.d yI e)::(zd 15 []))))),(zo 23 [])⟩) fun st => lC R pol_Z45 2 N [1,0,1,0,0] F_Z45 n st (kB R pol_Z45 0 (kS R pol_Z45 7 N [1,1] F_Z45 (kTop E sg_Z45 F_Z45)))
theorem Z45.l0_succ (R:Run) (hw:R.ok) (N n:Nat) (a:(List Int)) (b c:Int):Z45.l0 R N (n + 1) a b c = (bif (decide (c < (List.length a:Int))) then ((idx? a c).bind fun y4 => (bif ((y4,()).1 != b) then some ⟨o_Z45,((-1:Int),())⟩ else (Z45.l0 R N n a (w64 (b + (1:Int))) (w64 (c + (1:Int)))))) else some ⟨o_Z45,(b,())⟩) := (hw _ _).trans (by kernel_rfl)
theorem Z45.ev (R:Run) (N:Nat) (a0:(List Int)) (a1:Int):evFn E R sg_Z45 pol_Z45 F_Z45 N [⟨yL,a0⟩,⟨yI,a1⟩] = (Z45.l0 R N N a0 a1 (0:Int)) := by kernel_rfl
noncomputable def Z46.l0 (R:Run) (N n:Nat) (a:vK) (b e:Int):Option Dv := R.w (some ⟨(.c (.d yK a)::(.c (.d yI b)::(zd 3 (.c (.d yI e)::(zd 15 []))))),(zo 23 [])⟩) fun st => lC R pol_Z46 2 N [1,0,1,0,0] F_Z46 n st (kB R pol_Z46 0 (kS R pol_Z46 7 N [1,1] F_Z46 (kTop E sg_Z46 F_Z46)))
theorem Z46.l0_succ (R:Run) (hw:R.ok) (N n:Nat) (a:vK) (b c:Int):Z46.l0 R N (n + 1) a b c = (bif (decide (c < (List.length a:Int))) then ((idx? a c).bind fun y4 => ((callT R n_Z45 o_Z45 [⟨yL,(y4,()).1⟩,⟨yI,b⟩]).bind fun r5 => (bif (decide (r5.1 < (0:Int))) then some ⟨o_Z46,((-1:Int),())⟩ else (Z46.l0 R N n a r5.1 (w64 (c + (1:Int))))))) else some ⟨o_Z46,(b,())⟩) := (hw _ _).trans (by kernel_rfl)
theorem Z46.ev (R:Run) (N:Nat) (a0:vK) (a1:Int):evFn E R sg_Z46 pol_Z46 F_Z46 N [⟨yK,a0⟩,⟨yI,a1⟩] = (Z46.l0 R N N a0 a1 (0:Int)) := by kernel_rfl
theorem Z44.ev (R:Run) (N:Nat) (a0:vK) (a1:Int):evFn E R sg_Z44 pol_Z44 F_Z44 N [⟨yK,a0⟩,⟨yI,a1⟩] = ((callT R n_Z46 o_Z46 [⟨yK,a0⟩,⟨yI,a1⟩]).bind fun r1 => (bif (decide (r1.1 < (0:Int))) then some ⟨o_Z44,((-1:Int),())⟩ else some ⟨o_Z44,(r1.1,())⟩)) := by kernel_rfl
noncomputable def Z47.l0 (R:Run) (N n:Nat) (a:vN) (b e:Int):Option Dv := R.w (some ⟨(.c (.d yN a)::(.c (.d yI b)::(zd 3 (.c (.d yI e)::(zd 43 []))))),(zo 51 [])⟩) fun st => lC R pol_Z47 2 N [1,0,1,0,0] F_Z47 n st (kB R pol_Z47 0 (kS R pol_Z47 16 N [1,1] F_Z47 (kTop E sg_Z47 F_Z47)))
theorem Z47.l0_succ (R:Run) (hw:R.ok) (N n:Nat) (a:vN) (b c:Int):Z47.l0 R N (n + 1) a b c = (bif (decide (c < (List.length a:Int))) then ((idx? a c).bind fun y4 => (bif (y4.1 != b) then some ⟨o_Z47,((-1:Int),())⟩ else ((idx? a c).bind fun y5 => (bif (y5.2.1 != (w64 (b + (1:Int)))) then some ⟨o_Z47,((-1:Int),())⟩ else ((idx? a c).bind fun y6 => (bif (y6.2.2.1 != (w64 ((w64 (b + (1:Int))) + (1:Int)))) then some ⟨o_Z47,((-1:Int),())⟩ else ((idx? a c).bind fun y7 => ((callT R n_Z45 o_Z45 [⟨yL,y7.2.2.2.1⟩,⟨yI,(w64 ((w64 ((w64 (b + (1:Int))) + (1:Int))) + (1:Int)))⟩]).bind fun r8 => (bif (decide (r8.1 < (0:Int))) then some ⟨o_Z47,((-1:Int),())⟩ else (Z47.l0 R N n a r8.1 (w64 (c + (1:Int))))))))))))) else some ⟨o_Z47,(b,())⟩) := (hw _ _).trans (by kernel_rfl)
theorem Z47.ev (R:Run) (N:Nat) (a0:vN) (a1:Int):evFn E R sg_Z47 pol_Z47 F_Z47 N [⟨yN,a0⟩,⟨yI,a1⟩] = (Z47.l0 R N N a0 a1 (0:Int)) := by kernel_rfl
theorem Z48.ev (R:Run) (N:Nat) (a0:vK) (a1:Int) (a2:(List Int)) (a3:vN) (a4:Int):evFn E R sg_Z48 pol_Z48 F_Z48 N [⟨yK,a0⟩,⟨yI,a1⟩,⟨yL,a2⟩,⟨yN,a3⟩,⟨yI,a4⟩] = ((callT R n_Z44 o_Z44 [⟨yK,a0⟩,⟨yI,a4⟩]).bind fun r1 => (bif (decide (r1.1 < (0:Int))) then some ⟨o_Z48,((-1:Int),())⟩ else ((callT R n_Z45 o_Z45 [⟨yL,a2⟩,⟨yI,r1.1⟩]).bind fun r2 => (bif (decide (r2.1 < (0:Int))) then some ⟨o_Z48,((-1:Int),())⟩ else ((callT R n_Z47 o_Z47 [⟨yN,a3⟩,⟨yI,r2.1⟩]).bind fun r3 => (bif (decide (r3.1 < (0:Int))) then some ⟨o_Z48,((-1:Int),())⟩ else some ⟨o_Z48,(r3.1,())⟩)))))) := by kernel_rfl
noncomputable def Z37.j2 (R:Run) (N:Nat) (a:Int) (b:Bool) (e:Int) (f:vK) (g:(List Int)) (h:vN):Option Dv := R.w (some ⟨(zd 12 (.c (.box 12 0)::(V.dead::(V.dead::(.c (.d yI a)::(zd 97 (.c (.d .bool b)::(zd 8 [])))))))),(zo 12 (some (.box [.arr 127,.d yI e,.arr 128,.arr 129] false false)::(zo 114 (some (.arr yL f true false false)::(some (.arr yI g true false false)::(some (.arr (.st yM) h true false false)::[]))))))⟩) fun st => eC R pol_Z37 N [1,1,1,1,1,1,1,1,1,1,1,1,1,1,1,1,1,1,1,1,1,1,1,0,1] F_Z37 st (kS R pol_Z37 33 N [1,1,1,1,1,1,1,1,1,1,1,1,1,1,1,1,1,1,1,1,1,1,1,1] F_Z37 (kTop E sg_Z37 F_Z37))
noncomputable def Z37.j1 (R:Run) (N:Nat) (a:Int) (b:(List Int)) (e:Int) (f:Bool) (g h:vK) (i:Int) (j:(List Int)) (k:vN) (l:Int) (m:vK) (o:(List Int)) (p:vN):Option Dv := R.w (some ⟨(V.dead::(.c (.d yI a)::(.c (.d yL b)::(.c (.box 3 0)::(zd 4 (.c (.box 8 0)::(.c (.d yI e)::(V.dead::(V.dead::(.c (.box 12 0)::(zd 71 (.c (.d .bool f)::(zd 37 []))))))))))))),(zo 3 (some (.box [.d yK g] false false)::(zo 4 (some (.box [.d yK h,.d yI i,.d yL j,.d yN k] false false)::(zo 3 (some (.box [.arr 127,.d yI l,.arr 128,.arr 129] false false)::(zo 114 (some (.arr yL m true false false)::(some (.arr yI o true false false)::(some (.arr (.st yM) p true false false)::[]))))))))))⟩) fun st => eC R pol_Z37 N [1,1,1,1,1,1,1,1,1,1,1,1,1,1,1,0,1] F_Z37 st (kS R pol_Z37 22 N [1,1,1,1,1,1,1,1,1,1,1,1,1,1,1,1] F_Z37 (kTop E sg_Z37 F_Z37))
noncomputable def Z37.j0 (R:Run) (N:Nat) (a:Int) (b:(List Int)) (e f:Int) (g:Bool) (h i:vK) (j:Int) (k:(List Int)) (l:vN) (m:Int) (o:vK) (p:(List Int)) (q:vK) (r:(List Int)) (s:vN):Option Dv := R.w (some ⟨(V.dead::(.c (.d yI a)::(.c (.d yL b)::(.c (.box 3 0)::(zd 4 (.c (.box 8 0)::(.c (.d yI e)::(.c (.box 10 0)::(.c (.arr 126)::(.c (.box 12 0)::(.c (.d yI f)::(zd 41 (.c (.d .bool g)::(zd 66 [])))))))))))))),(zo 3 (some (.box [.d yK h] false false)::(zo 4 (some (.box [.d yK i,.d yI j,.d yL k,.d yN l] false false)::(none::(some (.box [.arr 125] false false)::(none::(some (.box [.arr 127,.d yI m,.arr 128,.arr 129] false false)::(zo 112 (some (.arr yL o true false false)::(some (.arr yI p true false false)::(some (.arr yL q true false false)::(some (.arr yI r true false false)::(some (.arr (.st yM) s true false false)::[]))))))))))))))⟩) fun st => eC R pol_Z37 N [1,1,1,1,1,1,1,1,1,0,1] F_Z37 st (kS R pol_Z37 13 N [1,1,1,1,1,1,1,1,1,1] F_Z37 (kTop E sg_Z37 F_Z37))
theorem Z37.j2_eq (R:Run) (hw:R.ok) (N:Nat) (a:Int) (b:Bool) (c:Int) (d:vK) (e:(List Int)) (f:vN):Z37.j2 R N a b c d e f = (bif b then some ⟨o_Z37,(false,())⟩ else ((callT R n_Z48 o_Z48 [⟨yK,d⟩,⟨yI,c⟩,⟨yL,e⟩,⟨yN,f⟩,⟨yI,(1:Int)⟩]).bind fun r56 => (bif (decide (r56.1 < (0:Int))) then some ⟨o_Z37,(false,())⟩ else (bif (r56.1 != a) then some ⟨o_Z37,(false,())⟩ else some ⟨o_Z37,(true,())⟩)))) := (hw _ _).trans (by kernel_rfl)
theorem Z37.j1_eq (R:Run) (hw:R.ok) (N:Nat) (a:Int) (b:(List Int)) (c:Int) (d:Bool) (e f:vK) (g:Int) (h:(List Int)) (i:vN) (j:Int) (k:vK) (l:(List Int)) (m:vN):Z37.j1 R N a b c d e f g h i j k l m = (bif d then some ⟨o_Z37,(false,())⟩ else ((callT R n_Z53 o_Z53 [⟨yK,k⟩,⟨yI,j⟩,⟨yL,l⟩,⟨yN,m⟩,⟨yI,(1:Int)⟩]).bind fun r44 => ((callT R n_Z48 o_Z48 [⟨yK,r44.2.1⟩,⟨yI,j⟩,⟨yL,r44.2.2.1⟩,⟨yN,r44.2.2.2.1⟩,⟨yI,(1:Int)⟩]).bind fun r45 => (bif (decide (r45.1 < (0:Int))) then some ⟨o_Z37,(false,())⟩ else (bif (r45.1 != r44.1) then some ⟨o_Z37,(false,())⟩ else ((callT R n_Z57 o_Z57 [⟨yK,e⟩]).bind fun r46 => ((callT R n_Z58 o_Z58 [⟨yL,b⟩]).bind fun r47 => ((callT R n_Z5 o_Z5 [⟨yK,r46.1⟩,⟨yI,a⟩,⟨yL,r47.1⟩]).bind fun r48 => ((callT R n_Z43 o_Z43 [⟨yK,r48.1⟩,⟨yI,r48.2.1⟩,⟨yL,r48.2.2.1⟩,⟨yN,r48.2.2.2.1⟩,⟨yK,f⟩,⟨yI,g⟩,⟨yL,h⟩,⟨yN,i⟩]).bind fun r49 => (bif (!r49.1) then (Z37.j2 R N r44.1 true j r44.2.1 r44.2.2.1 r44.2.2.2.1) else (Z37.j2 R N r44.1 (r48.2.2.2.2.1 != c) j r44.2.1 r44.2.2.1 r44.2.2.2.1))))))))))) := (hw _ _).trans (by kernel_rfl)
theorem Z37.j0_eq (R:Run) (hw:R.ok) (N:Nat) (a:Int) (b:(List Int)) (c d:Int) (e:Bool) (f g:vK) (h:Int) (i:(List Int)) (j:vN) (k:Int) (l:vK) (m:(List Int)) (o:vK) (p:(List Int)) (q:vN):Z37.j0 R N a b c d e f g h i j k l m o p q = (bif e then some ⟨o_Z37,(false,())⟩ else ((callT R n_Z57 o_Z57 [⟨yK,f⟩]).bind fun r25 => ((callT R n_Z38 o_Z38 [⟨yK,l⟩,⟨yK,r25.1⟩]).bind fun r26 => (bif (!r26.1) then some ⟨o_Z37,(false,())⟩ else ((callT R n_Z58 o_Z58 [⟨yL,b⟩]).bind fun r27 => ((callT R n_Z39 o_Z39 [⟨yL,m⟩,⟨yL,r27.1⟩]).bind fun r28 => (bif (!r28.1) then some ⟨o_Z37,(false,())⟩ else ((callT R n_Z49 o_Z49 [⟨yK,l⟩,⟨yI,(1:Int)⟩]).bind fun r29 => ((callT R n_Z50 o_Z50 [⟨yL,m⟩,⟨yI,r29.1⟩]).bind fun r30 => (bif (decide (r30.1 < (0:Int))) then (Z37.j1 R N a b c true f g h i j k o p q) else ((callT R n_Z43 o_Z43 [⟨yK,o⟩,⟨yI,k⟩,⟨yL,p⟩,⟨yN,q⟩,⟨yK,g⟩,⟨yI,h⟩,⟨yL,i⟩,⟨yN,j⟩]).bind fun r63 => (bif (!r63.1) then (Z37.j1 R N a b c true f g h i j k o p q) else (Z37.j1 R N a b c (d != c) f g h i j k o p q))))))))))))) := (hw _ _).trans (by kernel_rfl)
theorem Z37.ev (R:Run) (N:Nat) (a0:vK) (a1:Int) (a2:(List Int)):evFn E R sg_Z37 pol_Z37 F_Z37 N [⟨yK,a0⟩,⟨yI,a1⟩,⟨yL,a2⟩] = (bif (decide ((List.length a2:Int) > (1048576:Int))) then some ⟨o_Z37,(true,())⟩ else ((callT R n_Z54 o_Z54 [⟨yK,a0⟩,⟨yI,(1048576:Int)⟩]).bind fun r1 => (bif (decide (r1.1 < (0:Int))) then some ⟨o_Z37,(true,())⟩ else ((callT R n_Z57 o_Z57 [⟨yK,a0⟩]).bind fun r2 => ((callT R n_Z58 o_Z58 [⟨yL,a2⟩]).bind fun r3 => ((callT R n_Z82 o_Z82 [⟨yK,r2.1⟩,⟨yI,a1⟩,⟨yL,r3.1⟩]).bind fun r4 => ((callT R n_Z57 o_Z57 [⟨yK,a0⟩]).bind fun r5 => ((callT R n_Z58 o_Z58 [⟨yL,a2⟩]).bind fun r6 => ((callT R n_Z5 o_Z5 [⟨yK,r5.1⟩,⟨yI,a1⟩,⟨yL,r6.1⟩]).bind fun r7 => ((callT R n_Z43 o_Z43 [⟨yK,r7.1⟩,⟨yI,r7.2.1⟩,⟨yL,r7.2.2.1⟩,⟨yN,r7.2.2.2.1⟩,⟨yK,r4.1⟩,⟨yI,r4.2.1⟩,⟨yL,r4.2.2.1⟩,⟨yN,r4.2.2.2.1⟩]).bind fun r8 => (bif (!r8.1) then (Z37.j0 R N a1 a2 r4.2.2.2.2.1 r7.2.2.2.2.1 true a0 r4.1 r4.2.1 r4.2.2.1 r4.2.2.2.1 r7.2.1 r5.1 r6.1 r7.1 r7.2.2.1 r7.2.2.2.1) else (Z37.j0 R N a1 a2 r4.2.2.2.2.1 r7.2.2.2.2.1 (r7.2.2.2.2.1 != r4.2.2.2.2.1) a0 r4.1 r4.2.1 r4.2.2.1 r4.2.2.2.1 r7.2.1 r5.1 r6.1 r7.1 r7.2.2.1 r7.2.2.2.1)))))))))))) := by kernel_rfl
end VeT
