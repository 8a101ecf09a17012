import Derived.Test.YtcedcmppgagkaaaV2
import Derived.Test.YtcedcmppgagkaaaProg
import Derived.KernelRfl
import Derived.Deep.QuietTactic
import Derived.BigQuiet
import Derived.RegionTactic
import Derived.Deep.RegionWith
import Derived.Shelf.SlSortCmp.Whole1
import Derived.Shelf.SlSortCmp.NoneTotal
import Derived.Ground.SlsfProg
import Derived.WalkKit
import Derived.Lib.Walk
import Derived.Lib.SliceRun
import Derived.Lib.AppendZerosOnto
set_option linter.unusedVariables false
set_option linter.unusedSimpArgs false
open Go Go.Proofs Ve
set_option linter.unusedVariables false
set_option maxRecDepth 100000
namespace VeT
abbrev yM : Ty := .cons (.int .i64) (.cons (.int .i64) (.cons (.int .i64) (.cons (.sl (.int .i64)) .nil)))
abbrev yI : Ty := .int .i64
abbrev yL : Ty := .sl yI
abbrev yK : Ty := .sl yL
abbrev yN : Ty := .sl (.st yM)
abbrev yS : Ty := .cons yK (.cons yI (.cons yL (.cons yN .nil)))
abbrev vM := Int × Int × Int × List Int × Unit
abbrev vK := List (List Int)
abbrev vN := List vM
abbrev vS := vK × Int × List Int × vN × Unit
noncomputable def bodyOf (f:Func):Code := f.body.getD .skip
def zd:Nat → List Ve.V → List Ve.V
  | 0,t => t
  | n + 1,t => V.dead::zd n t
def zo:Nat → List (Option Ve.Obj) → List (Option Ve.Obj)
  | 0,t => t
  | n + 1,t => none::zo n t
@[reducible] def n_Z31:Nat := 5
@[reducible] def n_Z48:Nat := 6
@[reducible] def n_Z51:Nat := 8
@[reducible] def n_Z32:Nat := 10
@[reducible] def n_Z43:Nat := 11
@[reducible] def n_Z38:Nat := 12
@[reducible] def n_Z71:Nat := 15
@[reducible] def n_Z5:Nat := 16
@[reducible] def n_Z37:Nat := 17
@[reducible] def n_Z47:Nat := 18
@[reducible] def n_Z42:Nat := 19
@[reducible] def n_Z50:Nat := 20
@[reducible] def n_Z83:Nat := 21
@[reducible] def n_Z53:Nat := 24
@[reducible] def n_Z7:Nat := 25
@[reducible] def n_Z21:Nat := 26
@[reducible] def n_Z34:Nat := 29
@[reducible] def n_Z45:Nat := 30
@[reducible] def n_Z40:Nat := 31
@[reducible] def n_Z86:Nat := 35
@[reducible] def n_Z73:Nat := 36
@[reducible] def n_Z87:Nat := 37
@[reducible] def n_Z9:Nat := 38
@[reducible] def n_Z28:Nat := 39
@[reducible] def n_Z27:Nat := 40
@[reducible] def n_Z16:Nat := 41
@[reducible] def n_Z25:Nat := 42
@[reducible] def n_Z6:Nat := 43
@[reducible] def n_Z29:Nat := 44
@[reducible] def n_Z33:Nat := 45
@[reducible] def n_Z36:Nat := 46
@[reducible] def n_Z44:Nat := 47
@[reducible] def n_Z46:Nat := 48
@[reducible] def n_Z39:Nat := 49
@[reducible] def n_Z41:Nat := 50
@[reducible] def n_Z49:Nat := 51
@[reducible] def n_Z84:Nat := 52
@[reducible] def n_Z79:Nat := 53
@[reducible] def n_Z82:Nat := 54
@[reducible] def n_Z80:Nat := 55
@[reducible] def n_Z74:Nat := 57
@[reducible] def n_Z52:Nat := 58
@[reducible] def n_Z10:Nat := 59
@[reducible] def n_Z13:Nat := 60
@[reducible] def n_Z60:Nat := 61
@[reducible] def n_Z18:Nat := 62
@[reducible] def n_Z8:Nat := 63
@[reducible] def n_Z22:Nat := 64
@[reducible] def n_Z14:Nat := 65
@[reducible] def n_Z70:Nat := 66
@[reducible] def n_Z57:Nat := 67
@[reducible] def n_Z64:Nat := 68
@[reducible] def n_Z72:Nat := 72
@[reducible] def n_Z85:Nat := 73
@[reducible] def n_Z81:Nat := 74
@[reducible] def n_Z78:Nat := 75
@[reducible] def n_Z56:Nat := 76
@[reducible] def n_Z12:Nat := 77
@[reducible] def n_Z15:Nat := 78
@[reducible] def n_Z19:Nat := 79
@[reducible] def n_Z30:Nat := 80
@[reducible] def n_Z35:Nat := 81
@[reducible] def n_Z75:Nat := 82
@[reducible] def n_Z76:Nat := 83
@[reducible] def n_Z23:Nat := 84
@[reducible] def n_Z62:Nat := 85
@[reducible] def n_Z11:Nat := 86
@[reducible] def n_Z24:Nat := 87
@[reducible] def n_Z2:Nat := 88
@[reducible] def n_Z0:Nat := 89
@[reducible] def n_Z58:Nat := 90
@[reducible] def n_Z66:Nat := 91
@[reducible] def n_Z59:Nat := 92
@[reducible] def n_Z54:Nat := 93
@[reducible] def n_Z77:Nat := 98
@[reducible] def n_Z17:Nat := 99
@[reducible] def n_Z68:Nat := 100
@[reducible] def n_Z3:Nat := 101
@[reducible] def n_Z1:Nat := 102
@[reducible] def n_Z65:Nat := 103
@[reducible] def n_Z4:Nat := 115
@[reducible] noncomputable def F_Z31:Func := Try.f5
@[reducible] noncomputable def F_Z48:Func := Try.f6
@[reducible] noncomputable def F_Z51:Func := Try.f8
@[reducible] noncomputable def F_Z32:Func := Try.f10
@[reducible] noncomputable def F_Z43:Func := Try.f11
@[reducible] noncomputable def F_Z38:Func := Try.f12
@[reducible] noncomputable def F_Z71:Func := Try.f15
@[reducible] noncomputable def F_Z5:Func := Try.f16
@[reducible] noncomputable def F_Z37:Func := Try.f17
@[reducible] noncomputable def F_Z47:Func := Try.f18
@[reducible] noncomputable def F_Z42:Func := Try.f19
@[reducible] noncomputable def F_Z50:Func := Try.f20
@[reducible] noncomputable def F_Z83:Func := Try.f21
@[reducible] noncomputable def F_Z53:Func := Try.f24
@[reducible] noncomputable def F_Z7:Func := Try.f25
@[reducible] noncomputable def F_Z21:Func := Try.f26
@[reducible] noncomputable def F_Z34:Func := Try.f29
@[reducible] noncomputable def F_Z45:Func := Try.f30
@[reducible] noncomputable def F_Z40:Func := Try.f31
@[reducible] noncomputable def F_Z86:Func := Try.f35
@[reducible] noncomputable def F_Z73:Func := Try.f36
@[reducible] noncomputable def F_Z87:Func := Try.f37
@[reducible] noncomputable def F_Z9:Func := Try.f38
@[reducible] noncomputable def F_Z28:Func := Try.f39
@[reducible] noncomputable def F_Z27:Func := Try.f40
@[reducible] noncomputable def F_Z16:Func := Try.f41
@[reducible] noncomputable def F_Z25:Func := Try.f42
@[reducible] noncomputable def F_Z6:Func := Try.f43
@[reducible] noncomputable def F_Z29:Func := Try.f44
@[reducible] noncomputable def F_Z33:Func := Try.f45
@[reducible] noncomputable def F_Z36:Func := Try.f46
@[reducible] noncomputable def F_Z44:Func := Try.f47
@[reducible] noncomputable def F_Z46:Func := Try.f48
@[reducible] noncomputable def F_Z39:Func := Try.f49
@[reducible] noncomputable def F_Z41:Func := Try.f50
@[reducible] noncomputable def F_Z49:Func := Try.f51
@[reducible] noncomputable def F_Z84:Func := Try.f52
@[reducible] noncomputable def F_Z79:Func := Try.f53
@[reducible] noncomputable def F_Z82:Func := Try.f54
@[reducible] noncomputable def F_Z80:Func := Try.f55
@[reducible] noncomputable def F_Z74:Func := Try.f57
@[reducible] noncomputable def F_Z52:Func := Try.f58
@[reducible] noncomputable def F_Z10:Func := Try.f59
@[reducible] noncomputable def F_Z13:Func := Try.f60
@[reducible] noncomputable def F_Z60:Func := Try.f61
@[reducible] noncomputable def F_Z18:Func := Try.f62
@[reducible] noncomputable def F_Z8:Func := Try.f63
@[reducible] noncomputable def F_Z22:Func := Try.f64
@[reducible] noncomputable def F_Z14:Func := Try.f65
@[reducible] noncomputable def F_Z70:Func := Try.f66
@[reducible] noncomputable def F_Z57:Func := Try.f67
@[reducible] noncomputable def F_Z64:Func := Try.f68
@[reducible] noncomputable def F_Z72:Func := Try.f72
@[reducible] noncomputable def F_Z85:Func := Try.f73
@[reducible] noncomputable def F_Z81:Func := Try.f74
@[reducible] noncomputable def F_Z78:Func := Try.f75
@[reducible] noncomputable def F_Z56:Func := Try.f76
@[reducible] noncomputable def F_Z12:Func := Try.f77
@[reducible] noncomputable def F_Z15:Func := Try.f78
@[reducible] noncomputable def F_Z19:Func := Try.f79
@[reducible] noncomputable def F_Z30:Func := Try.f80
@[reducible] noncomputable def F_Z35:Func := Try.f81
@[reducible] noncomputable def F_Z75:Func := Try.f82
@[reducible] noncomputable def F_Z76:Func := Try.f83
@[reducible] noncomputable def F_Z23:Func := Try.f84
@[reducible] noncomputable def F_Z62:Func := Try.f85
@[reducible] noncomputable def F_Z11:Func := Try.f86
@[reducible] noncomputable def F_Z24:Func := Try.f87
@[reducible] noncomputable def F_Z2:Func := Try.f88
@[reducible] noncomputable def F_Z0:Func := Try.f89
@[reducible] noncomputable def F_Z58:Func := Try.f90
@[reducible] noncomputable def F_Z66:Func := Try.f91
@[reducible] noncomputable def F_Z59:Func := Try.f92
@[reducible] noncomputable def F_Z54:Func := Try.f93
@[reducible] noncomputable def F_Z77:Func := Try.f98
@[reducible] noncomputable def F_Z17:Func := Try.f99
@[reducible] noncomputable def F_Z68:Func := Try.f100
@[reducible] noncomputable def F_Z3:Func := Try.f101
@[reducible] noncomputable def F_Z1:Func := Try.f102
@[reducible] noncomputable def F_Z65:Func := Try.f103
@[reducible] noncomputable def F_Z4:Func := Try.f115
@[reducible] def o_Z31:Ty := (.cons .bool .nil)
noncomputable def sg_Z31:Sig := ⟨[(true,1),(false,1),(false,1),(false,1)],[],o_Z31,[(false,1)],[],[]⟩
@[reducible] def o_Z48:Ty := (.cons yI .nil)
noncomputable def sg_Z48:Sig := ⟨[(true,1),(false,1)],[],o_Z48,[(false,1)],[],[]⟩
@[reducible] def o_Z51:Ty := (.cons yK .nil)
noncomputable def sg_Z51:Sig := ⟨[(true,1)],[],o_Z51,[(true,1)],[.deep],[]⟩
@[reducible] def o_Z32:Ty := (.cons .bool .nil)
noncomputable def sg_Z32:Sig := ⟨[(true,1),(true,1)],[],o_Z32,[(false,1)],[],[]⟩
@[reducible] def o_Z43:Ty := (.cons yI (.cons yK .nil))
noncomputable def sg_Z43:Sig := ⟨[(true,1),(false,1)],[.io true,.imm],o_Z43,[(false,1)],[],[]⟩
@[reducible] def o_Z38:Ty := (.cons yI .nil)
noncomputable def sg_Z38:Sig := ⟨[(true,1),(false,1)],[],o_Z38,[(false,1)],[],[]⟩
@[reducible] def o_Z71:Ty := (.cons yK (.cons yI (.cons yL (.cons yN (.cons yI .nil)))))
noncomputable def sg_Z71:Sig := ⟨[(true,1),(false,1),(false,1),(false,1)],[],o_Z71,[(true,4),(false,1)],[.deep,.imm,.deep,.deep,.imm],[]⟩
@[reducible] def o_Z5:Ty := (.cons yK (.cons yI (.cons yL (.cons yN (.cons yI .nil)))))
noncomputable def sg_Z5:Sig := ⟨[(true,1),(false,1),(false,1),(false,1)],[],o_Z5,[(true,4),(false,1)],[.deep,.imm,.deep,.deep,.imm],[]⟩
@[reducible] def o_Z37:Ty := (.cons .bool .nil)
noncomputable def sg_Z37:Sig := ⟨[(true,4),(true,4)],[],o_Z37,[(false,1)],[],[]⟩
@[reducible] def o_Z47:Ty := (.cons yI (.cons yK (.cons yL (.cons yN .nil))))
noncomputable def sg_Z47:Sig := ⟨[(true,4),(false,1)],[.io true,.imm,.io true,.io true,.imm],o_Z47,[(false,1)],[],[]⟩
@[reducible] def o_Z42:Ty := (.cons yI .nil)
noncomputable def sg_Z42:Sig := ⟨[(true,4),(false,1)],[],o_Z42,[(false,1)],[],[]⟩
@[reducible] def o_Z50:Ty := (.cons yI .nil)
noncomputable def sg_Z50:Sig := ⟨[(false,1),(false,1)],[],o_Z50,[(false,1)],[],[]⟩
@[reducible] def o_Z83:Ty := (.cons .bool .nil)
noncomputable def sg_Z83:Sig := ⟨[(false,1)],[],o_Z83,[(false,1)],[],[(.ptr (.cons yK .nil))]⟩
@[reducible] def o_Z53:Ty := (.cons yK .nil)
noncomputable def sg_Z53:Sig := ⟨[(false,1)],[],o_Z53,[(false,1)],[.deep],[]⟩
@[reducible] def o_Z7:Ty := (.cons .bool .nil)
noncomputable def sg_Z7:Sig := ⟨[(true,1)],[],o_Z7,[(false,1)],[],[]⟩
@[reducible] def o_Z21:Ty := (.cons yK .nil)
noncomputable def sg_Z21:Sig := ⟨[(false,1)],[],o_Z21,[(true,1)],[.deep],[]⟩
@[reducible] def o_Z34:Ty := (.cons .bool .nil)
noncomputable def sg_Z34:Sig := ⟨[(false,1),(false,1)],[],o_Z34,[(false,1)],[],[]⟩
@[reducible] def o_Z45:Ty := (.cons yI (.cons yK .nil))
noncomputable def sg_Z45:Sig := ⟨[(false,1),(false,1)],[.io true,.imm],o_Z45,[(false,1)],[],[]⟩
@[reducible] def o_Z40:Ty := (.cons yI .nil)
noncomputable def sg_Z40:Sig := ⟨[(false,1),(false,1)],[],o_Z40,[(false,1)],[],[]⟩
@[reducible] def o_Z86:Ty := (.cons .bool .nil)
noncomputable def sg_Z86:Sig := ⟨[(false,1),(false,1)],[],o_Z86,[(false,1)],[],[(.ptr (.cons yK .nil))]⟩
@[reducible] def o_Z73:Ty := (.cons .bool .nil)
noncomputable def sg_Z73:Sig := ⟨[(false,1),(false,1),(false,1)],[],o_Z73,[(false,1)],[],[]⟩
@[reducible] def o_Z87:Ty := yS
noncomputable def sg_Z87:Sig := ⟨[(false,1),(false,1),(false,1)],[],o_Z87,[(true,4)],[.deep,.imm,.deep,.deep],[(.ptr (.cons yK .nil))]⟩
@[reducible] def o_Z9:Ty := (.cons .bool .nil)
noncomputable def sg_Z9:Sig := ⟨[(false,1)],[],o_Z9,[(false,1)],[],[]⟩
@[reducible] def o_Z28:Ty := (.cons .bool .nil)
noncomputable def sg_Z28:Sig := ⟨[(false,1),(false,1),(false,1)],[],o_Z28,[(false,1)],[],[]⟩
@[reducible] def o_Z27:Ty := (.cons yI .nil)
noncomputable def sg_Z27:Sig := ⟨[(false,1)],[],o_Z27,[(false,1)],[],[]⟩
@[reducible] def o_Z16:Ty := (.cons yL .nil)
noncomputable def sg_Z16:Sig := ⟨[(true,1),(false,1)],[],o_Z16,[(false,1)],[.deep],[]⟩
@[reducible] def o_Z25:Ty := yS
noncomputable def sg_Z25:Sig := ⟨[(true,1),(false,1),(false,1),(false,1)],[],o_Z25,[(true,4)],[.deep,.imm,.deep,.deep],[]⟩
@[reducible] def o_Z6:Ty := yM
noncomputable def sg_Z6:Sig := ⟨[(true,3),(false,1),(false,1)],[],o_Z6,[(true,4)],[.imm,.imm,.imm,.deep],[.nil,.nil,.nil,(.ptr (.cons yI .nil)),(.ptr (.cons yL .nil))]⟩
@[reducible] def o_Z29:Ty := yM
noncomputable def sg_Z29:Sig := ⟨[(false,1),(false,1),(false,1)],[],o_Z29,[(true,4)],[.imm,.imm,.imm,.deep],[]⟩
@[reducible] def o_Z33:Ty := (.cons .bool .nil)
noncomputable def sg_Z33:Sig := ⟨[(false,1),(false,1)],[],o_Z33,[(false,1)],[],[]⟩
@[reducible] def o_Z36:Ty := (.cons .bool .nil)
noncomputable def sg_Z36:Sig := ⟨[(false,1),(false,1)],[],o_Z36,[(false,1)],[],[]⟩
@[reducible] def o_Z44:Ty := (.cons yI (.cons yL .nil))
noncomputable def sg_Z44:Sig := ⟨[(false,1),(false,1)],[.io true,.imm],o_Z44,[(false,1)],[],[]⟩
@[reducible] def o_Z46:Ty := (.cons yI (.cons yN .nil))
noncomputable def sg_Z46:Sig := ⟨[(false,1),(false,1)],[.io true,.imm],o_Z46,[(false,1)],[],[]⟩
@[reducible] def o_Z39:Ty := (.cons yI .nil)
noncomputable def sg_Z39:Sig := ⟨[(false,1),(false,1)],[],o_Z39,[(false,1)],[],[]⟩
@[reducible] def o_Z41:Ty := (.cons yI .nil)
noncomputable def sg_Z41:Sig := ⟨[(false,1),(false,1)],[],o_Z41,[(false,1)],[],[]⟩
@[reducible] def o_Z49:Ty := (.cons yI .nil)
noncomputable def sg_Z49:Sig := ⟨[(false,1),(false,1)],[],o_Z49,[(false,1)],[],[]⟩
@[reducible] def o_Z84:Ty := (.cons .bool .nil)
noncomputable def sg_Z84:Sig := ⟨[(false,1)],[],o_Z84,[(false,1)],[],[]⟩
@[reducible] def o_Z79:Ty := (.cons .bool .nil)
noncomputable def sg_Z79:Sig := ⟨[(false,1),(false,1)],[],o_Z79,[(false,1)],[],[]⟩
@[reducible] def o_Z82:Ty := (.cons yI .nil)
noncomputable def sg_Z82:Sig := ⟨[(false,1),(false,1)],[],o_Z82,[(false,1)],[],[(.ptr (.cons yK .nil))]⟩
@[reducible] def o_Z80:Ty := (.cons yL .nil)
noncomputable def sg_Z80:Sig := ⟨[(false,1),(false,1)],[],o_Z80,[(false,1)],[.deep],[]⟩
@[reducible] def o_Z74:Ty := (.cons yL .nil)
noncomputable def sg_Z74:Sig := ⟨[(false,1)],[],o_Z74,[(false,1)],[.deep],[]⟩
@[reducible] def o_Z52:Ty := (.cons yL .nil)
noncomputable def sg_Z52:Sig := ⟨[(false,1)],[],o_Z52,[(false,1)],[.deep],[]⟩
@[reducible] def o_Z10:Ty := (.cons .bool .nil)
noncomputable def sg_Z10:Sig := ⟨[(false,1)],[],o_Z10,[(false,1)],[],[]⟩
@[reducible] def o_Z13:Ty := (.cons yI .nil)
noncomputable def sg_Z13:Sig := ⟨[(false,1),(false,1)],[],o_Z13,[(false,1)],[],[]⟩
@[reducible] def o_Z60:Ty := (.cons .bool .nil)
noncomputable def sg_Z60:Sig := ⟨[(false,1),(false,1)],[],o_Z60,[(false,1)],[],[]⟩
@[reducible] def o_Z18:Ty := (.cons yK .nil)
noncomputable def sg_Z18:Sig := ⟨[(false,1)],[],o_Z18,[(false,1)],[.deep],[]⟩
@[reducible] def o_Z8:Ty := (.cons .bool .nil)
noncomputable def sg_Z8:Sig := ⟨[(false,1),(false,1),(false,1)],[],o_Z8,[(false,1)],[],[.nil,(.ptr (.cons yK .nil)),(.ptr (.cons yI .nil))]⟩
@[reducible] def o_Z22:Ty := (.cons yI .nil)
noncomputable def sg_Z22:Sig := ⟨[(true,1),(false,1)],[],o_Z22,[(false,1)],[],[]⟩
@[reducible] def o_Z14:Ty := (.cons yK .nil)
noncomputable def sg_Z14:Sig := ⟨[(false,1)],[],o_Z14,[(false,1)],[.deep],[]⟩
@[reducible] def o_Z70:Ty := (.cons yK .nil)
noncomputable def sg_Z70:Sig := ⟨[(false,1),(false,1)],[.io true,.imm],o_Z70,[],[],[]⟩
@[reducible] def o_Z57:Ty := (.cons yK .nil)
noncomputable def sg_Z57:Sig := ⟨[(false,1),(false,1)],[.take true,.imm],o_Z57,[(false,1)],[.deep],[]⟩
@[reducible] def o_Z64:Ty := (.cons .bool .nil)
noncomputable def sg_Z64:Sig := ⟨[(false,1),(false,1)],[],o_Z64,[(false,1)],[],[]⟩
@[reducible] def o_Z72:Ty := (.cons .bool .nil)
noncomputable def sg_Z72:Sig := ⟨[(false,1)],[],o_Z72,[(false,1)],[],[]⟩
@[reducible] def o_Z85:Ty := (.cons yK .nil)
noncomputable def sg_Z85:Sig := ⟨[(false,1),(false,1)],[],o_Z85,[(true,1)],[.deep],[(.ptr (.cons yK .nil))]⟩
@[reducible] def o_Z81:Ty := (.cons yL .nil)
noncomputable def sg_Z81:Sig := ⟨[(false,1),(false,1)],[],o_Z81,[(false,1)],[.deep],[(.ptr (.cons yK .nil))]⟩
@[reducible] def o_Z78:Ty := yM
noncomputable def sg_Z78:Sig := ⟨[(false,1),(false,1),(false,1)],[],o_Z78,[(true,4)],[.imm,.imm,.imm,.deep],[]⟩
@[reducible] def o_Z56:Ty := (.cons yL .nil)
noncomputable def sg_Z56:Sig := ⟨[(false,1)],[],o_Z56,[(false,1)],[.deep],[]⟩
@[reducible] def o_Z12:Ty := (.cons (.sl (.st (.cons yI (.cons yI (.cons yI .nil))))) .nil)
noncomputable def sg_Z12:Sig := ⟨[(true,1)],[],o_Z12,[(false,1)],[.deep],[]⟩
@[reducible] def o_Z15:Ty := yM
noncomputable def sg_Z15:Sig := ⟨[(true,4)],[],o_Z15,[(true,4)],[.imm,.imm,.imm,.deep],[]⟩
@[reducible] def o_Z19:Ty := yM
noncomputable def sg_Z19:Sig := ⟨[(false,1),(false,1),(false,1),(false,1)],[],o_Z19,[(true,4)],[.imm,.imm,.imm,.deep],[]⟩
@[reducible] def o_Z30:Ty := (.cons yI .nil)
noncomputable def sg_Z30:Sig := ⟨[(false,1),(false,1)],[],o_Z30,[(false,1)],[],[]⟩
@[reducible] def o_Z35:Ty := (.cons .bool .nil)
noncomputable def sg_Z35:Sig := ⟨[(true,4),(true,4)],[],o_Z35,[(false,1)],[],[]⟩
@[reducible] def o_Z75:Ty := (.cons .bool .nil)
noncomputable def sg_Z75:Sig := ⟨[(false,1),(false,1),(false,1)],[],o_Z75,[(false,1)],[],[]⟩
@[reducible] def o_Z76:Ty := (.cons .bool .nil)
noncomputable def sg_Z76:Sig := ⟨[(false,1),(false,1)],[],o_Z76,[(false,1)],[],[]⟩
@[reducible] def o_Z23:Ty := (.cons .bool .nil)
noncomputable def sg_Z23:Sig := ⟨[(false,1)],[],o_Z23,[(false,1)],[],[]⟩
@[reducible] def o_Z62:Ty := (.cons .bool .nil)
noncomputable def sg_Z62:Sig := ⟨[(false,1),(false,1)],[],o_Z62,[(false,1)],[],[]⟩
@[reducible] def o_Z11:Ty := (.cons .bool .nil)
noncomputable def sg_Z11:Sig := ⟨[(false,1)],[],o_Z11,[(false,1)],[],[]⟩
@[reducible] def o_Z24:Ty := (.cons .bool .nil)
noncomputable def sg_Z24:Sig := ⟨[(false,1)],[],o_Z24,[(false,1)],[],[]⟩
@[reducible] def o_Z2:Ty := (.cons yI .nil)
noncomputable def sg_Z2:Sig := ⟨[(false,1)],[],o_Z2,[(false,1)],[],[]⟩
@[reducible] def o_Z0:Ty := (.cons yI .nil)
noncomputable def sg_Z0:Sig := ⟨[(false,1),(false,1)],[],o_Z0,[(false,1)],[],[]⟩
@[reducible] def o_Z58:Ty := (.cons yI .nil)
noncomputable def sg_Z58:Sig := ⟨[(false,1),(false,1)],[],o_Z58,[(false,1)],[],[]⟩
@[reducible] def o_Z66:Ty := (.cons yI .nil)
noncomputable def sg_Z66:Sig := ⟨[(false,1),(false,1)],[],o_Z66,[(false,1)],[],[]⟩
@[reducible] def o_Z59:Ty := (.cons yL .nil)
noncomputable def sg_Z59:Sig := ⟨[(false,1)],[],o_Z59,[(false,1)],[.deep],[]⟩
@[reducible] def o_Z54:Ty := (.cons yI (.cons .bool .nil))
noncomputable def sg_Z54:Sig := ⟨[(false,1),(false,1),(false,1)],[],o_Z54,[(false,1),(false,1)],[],[]⟩
@[reducible] def o_Z77:Ty := (.cons .bool .nil)
noncomputable def sg_Z77:Sig := ⟨[(false,1)],[],o_Z77,[(false,1)],[],[]⟩
@[reducible] def o_Z17:Ty := (.cons yL .nil)
noncomputable def sg_Z17:Sig := ⟨[(true,1),(false,1)],[],o_Z17,[(false,1)],[.deep],[]⟩
@[reducible] def o_Z68:Ty := (.cons yI .nil)
noncomputable def sg_Z68:Sig := ⟨[(false,1),(false,1)],[],o_Z68,[(false,1)],[],[]⟩
@[reducible] def o_Z3:Ty := (.cons .bool .nil)
noncomputable def sg_Z3:Sig := ⟨[(false,1)],[],o_Z3,[(false,1)],[],[]⟩
@[reducible] def o_Z1:Ty := (.cons yI .nil)
noncomputable def sg_Z1:Sig := ⟨[(false,1),(false,1)],[],o_Z1,[(false,1)],[],[]⟩
@[reducible] def o_Z65:Ty := (.cons yL .nil)
noncomputable def sg_Z65:Sig := ⟨[(false,1),(false,1)],[.take true,.imm],o_Z65,[(false,1)],[.deep],[]⟩
@[reducible] def o_Z4:Ty := (.cons .bool .nil)
noncomputable def sg_Z4:Sig := ⟨[(false,1)],[],o_Z4,[(false,1)],[],[]⟩
noncomputable def pol_Z31:Pol := ⟨119,[(35,[some 115]),(41,[some 116,none,some 117,some 118])],[],[],[(1000052,⟨[1,2,3,4,10,11,12,13,14,52],[4,10,12,13,115,116,117,118],[],[],[],[],[]⟩),(1000073,⟨[1,2,3,4,10,11,13,73],[4,10,13,116,117,118],[],[],[],[],[]⟩),(1000102,⟨[13,16,102],[13,116,117,118],[],[],[],[],[]⟩)],[]⟩
noncomputable def pol_Z48:Pol := ⟨14,[],[],[],[],[]⟩
noncomputable def pol_Z51:Pol := ⟨11,[(6,[some 10])],[],[],[],[]⟩
noncomputable def pol_Z32:Pol := ⟨13,[],[],[],[],[]⟩
noncomputable def pol_Z43:Pol := ⟨12,[],[],[],[],[]⟩
noncomputable def pol_Z38:Pol := ⟨14,[],[],[],[],[]⟩
noncomputable def pol_Z71:Pol := ⟨46,[(38,[some 43,none,some 44,some 45])],[],[],[(1000026,⟨[1,2,3,4,8,26],[4,8],[],[],[],[],[]⟩)],[]⟩
noncomputable def pol_Z5:Pol := ⟨52,[(34,[some 48]),(43,[some 49,none,some 50,some 51])],[],[],[(1000018,⟨[2,3,4,5,8,18],[4,5,8],[],[],[],[],[]⟩),(1000031,⟨[2,3,4,5,8,31],[4,5,8],[],[],[],[],[]⟩)],[]⟩
noncomputable def pol_Z37:Pol := ⟨36,[],[],[],[],[]⟩
noncomputable def pol_Z47:Pol := ⟨23,[],[],[],[],[]⟩
noncomputable def pol_Z42:Pol := ⟨29,[],[],[],[],[]⟩
noncomputable def pol_Z50:Pol := ⟨29,[],[(5,⟨[0,1,5],[],[],[],[],[],[]⟩)],[],[],[]⟩
noncomputable def pol_Z83:Pol := ⟨66,[],[(4,⟨[0,3],[],[],[],[],[],[]⟩),(10,⟨[0,3,4,5],[],[],[],[],[],[]⟩)],[],[(1000047,⟨[0,3,4,47],[],[],[],[],[],[]⟩),(1000056,⟨[0,3,4,5,56],[],[],[],[],[],[]⟩)],[]⟩
noncomputable def pol_Z53:Pol := ⟨25,[(20,[some 24])],[(3,⟨[0,3,4],[7],[],[],[],[],[]⟩)],[],[],[]⟩
noncomputable def pol_Z7:Pol := ⟨41,[],[(2,⟨[1,6,7,8],[1],[],[],[1],[],[]⟩)],[],[(1000030,⟨[1,3,4,6,7,8,30],[1,3],[],[],[],[],[]⟩)],[]⟩
noncomputable def pol_Z21:Pol := ⟨14,[(5,[some 12]),(9,[some 13])],[],[],[],[]⟩
noncomputable def pol_Z34:Pol := ⟨29,[],[(4,⟨[0,1,5],[],[],[],[],[],[]⟩)],[],[],[]⟩
noncomputable def pol_Z40:Pol := ⟨23,[],[(2,⟨[0,1,5],[],[],[],[],[],[]⟩)],[],[],[]⟩
noncomputable def pol_Z86:Pol := ⟨13,[],[],[],[],[]⟩
noncomputable def pol_Z73:Pol := ⟨18,[],[],[],[],[]⟩
noncomputable def pol_Z87:Pol := ⟨61,[(12,[some 59]),(15,[some 60]),(50,[none,none,none,some 58])],[(3,⟨[0,1,2,6,7,8],[6,7,16,59,60],[],[],[],[],[]⟩),(7,⟨[0,1,2,6,7,8,9,10],[6,7,16,59,60],[],[],[],[],[]⟩)],[],[],[]⟩
noncomputable def pol_Z9:Pol := ⟨19,[],[(4,⟨[0,3],[],[],[],[],[],[]⟩)],[],[],[]⟩
noncomputable def pol_Z28:Pol := ⟨18,[],[],[],[],[]⟩
noncomputable def pol_Z27:Pol := ⟨6,[],[],[],[],[]⟩
noncomputable def pol_Z16:Pol := ⟨19,[],[(3,⟨[1,5,8,9],[14],[(5,14,yI,true)],[],[],[],[]⟩)],[],[],[]⟩
noncomputable def pol_Z25:Pol := ⟨44,[(14,[some 42]),(17,[some 43]),(31,[none,none,none,some 41])],[(3,⟨[3,8,9,20,21,22],[8,9,33,42,43],[],[(9,3,33,(.st yM),true)],[],[],[]⟩)],[],[],[]⟩
noncomputable def pol_Z6:Pol := ⟨23,[(16,[none,none,none,some 22])],[],[],[],[]⟩
noncomputable def pol_Z29:Pol := ⟨15,[(10,[none,none,none,some 14])],[],[],[],[]⟩
noncomputable def pol_Z33:Pol := ⟨28,[],[(4,⟨[0,1,5],[],[],[],[],[],[]⟩)],[],[],[]⟩
noncomputable def pol_Z36:Pol := ⟨29,[],[(4,⟨[0,1,5],[],[],[],[],[],[]⟩)],[],[],[]⟩
noncomputable def pol_Z44:Pol := ⟨21,[],[(2,⟨[0,1,5],[19],[],[],[],[],[]⟩)],[],[],[]⟩
noncomputable def pol_Z39:Pol := ⟨23,[],[(2,⟨[0,1,5],[],[],[],[],[],[]⟩)],[],[],[]⟩
noncomputable def pol_Z41:Pol := ⟨51,[],[(2,⟨[0,1,5],[],[],[],[],[],[]⟩)],[],[],[]⟩
noncomputable def pol_Z49:Pol := ⟨14,[],[],[],[],[]⟩
noncomputable def pol_Z84:Pol := ⟨11,[],[],[],[],[]⟩
noncomputable def pol_Z79:Pol := ⟨42,[],[(4,⟨[0,1,5],[],[],[],[],[],[]⟩)],[],[],[]⟩
noncomputable def pol_Z82:Pol := ⟨27,[],[(2,⟨[0,1,5],[],[],[],[],[],[]⟩)],[],[],[]⟩
noncomputable def pol_Z80:Pol := ⟨19,[(9,[some 18])],[],[],[],[]⟩
noncomputable def pol_Z74:Pol := ⟨7,[],[],[],[],[]⟩
noncomputable def pol_Z52:Pol := ⟨23,[],[(3,⟨[0,3,4],[7],[],[],[],[],[]⟩)],[],[],[]⟩
noncomputable def pol_Z10:Pol := ⟨21,[],[],[],[],[]⟩
noncomputable def pol_Z13:Pol := ⟨17,[],[],[],[],[]⟩
noncomputable def pol_Z60:Pol := ⟨11,[],[],[],[],[]⟩
noncomputable def pol_Z18:Pol := ⟨29,[(22,[some 28])],[(3,⟨[0,3,6,7],[24],[(3,24,yL,true)],[],[],[],[]⟩)],[],[],[]⟩
noncomputable def pol_Z8:Pol := ⟨16,[],[],[],[],[]⟩
noncomputable def pol_Z22:Pol := ⟨19,[],[],[],[],[]⟩
noncomputable def pol_Z14:Pol := ⟨21,[(14,[some 20])],[(3,⟨[3,6,7,8],[16],[(3,16,yL,true)],[],[],[],[]⟩)],[],[],[]⟩
noncomputable def pol_Z64:Pol := ⟨28,[],[(4,⟨[0,1,12,13],[],[],[],[],[],[]⟩)],[],[],[]⟩
noncomputable def pol_Z72:Pol := ⟨6,[],[],[],[],[]⟩
noncomputable def pol_Z85:Pol := ⟨46,[(38,[some 45])],[(3,⟨[0,1,4,5,6],[4,5,7],[],[],[],[],[]⟩)],[],[],[]⟩
noncomputable def pol_Z81:Pol := ⟨38,[],[(4,⟨[0,5,6,7],[15],[],[],[],[],[]⟩)],[],[(1000024,⟨[0,5,6,7,24],[15],[],[],[],[],[]⟩)],[]⟩
noncomputable def pol_Z78:Pol := ⟨18,[],[],[],[],[]⟩
noncomputable def pol_Z56:Pol := ⟨9,[],[],[],[(1000004,⟨[0,4],[],[],[],[],[],[]⟩)],[]⟩
noncomputable def pol_Z12:Pol := ⟨33,[],[(3,⟨[1,3,9,10],[1,28],[(3,28,(.st (.cons yI (.cons yI (.cons yI .nil)))),true)],[],[],[],[]⟩),(6,⟨[1,3,4,9,10,15,16,17],[1,28],[(3,28,(.st (.cons yI (.cons yI (.cons yI .nil)))),true)],[],[],[],[]⟩)],[],[],[]⟩
noncomputable def pol_Z15:Pol := ⟨13,[(5,[some 12])],[],[],[],[]⟩
noncomputable def pol_Z19:Pol := ⟨40,[],[(3,⟨[2,3,8,9,16,17],[8,9,31],[],[(9,3,31,yI,true)],[],[],[]⟩),(6,⟨[2,3,8,9,10,16,17,20,21],[8,9,31],[],[(9,3,31,yI,true)],[],[],[]⟩)],[],[],[]⟩
noncomputable def pol_Z30:Pol := ⟨7,[],[],[],[],[]⟩
noncomputable def pol_Z35:Pol := ⟨34,[],[],[],[],[]⟩
noncomputable def pol_Z75:Pol := ⟨41,[],[(2,⟨[0,1,2,7],[],[],[],[],[],[]⟩)],[],[(1000037,⟨[0,1,2,7,37],[],[],[],[],[],[]⟩)],[]⟩
noncomputable def pol_Z76:Pol := ⟨28,[],[(4,⟨[0,1,5],[],[],[],[],[],[]⟩)],[],[],[]⟩
noncomputable def pol_Z23:Pol := ⟨21,[],[(2,⟨[0,3],[],[],[],[],[],[]⟩)],[],[],[]⟩
noncomputable def pol_Z62:Pol := ⟨11,[],[],[],[],[]⟩
noncomputable def pol_Z11:Pol := ⟨7,[],[],[],[],[]⟩
noncomputable def pol_Z24:Pol := ⟨6,[],[],[],[],[]⟩
noncomputable def pol_Z2:Pol := ⟨19,[],[(3,⟨[3,6,7,8],[],[],[],[],[],[]⟩)],[],[],[]⟩
noncomputable def pol_Z0:Pol := ⟨22,[],[],[],[],[]⟩
noncomputable def pol_Z58:Pol := ⟨38,[],[(2,⟨[0,1,9,10,11],[],[],[],[],[],[]⟩)],[],[],[]⟩
noncomputable def pol_Z66:Pol := ⟨21,[],[(2,⟨[0,1,7,8],[],[],[],[],[],[]⟩)],[],[],[]⟩
noncomputable def pol_Z59:Pol := ⟨38,[(24,[some 37])],[(3,⟨[0,3,9,10,11],[],[],[],[],[],[]⟩),(11,⟨[6,25,26,27],[37],[],[],[],[],[]⟩)],[],[],[]⟩
noncomputable def pol_Z54:Pol := ⟨52,[],[(3,⟨[0,1,2,8,9,10],[],[],[],[],[],[]⟩)],[],[],[]⟩
noncomputable def pol_Z77:Pol := ⟨19,[],[(4,⟨[0,3],[],[],[],[],[],[]⟩)],[],[],[]⟩
noncomputable def pol_Z17:Pol := ⟨29,[],[(3,⟨[2,5,13,14,15],[2,24],[(5,24,yI,true)],[],[],[],[]⟩)],[],[],[]⟩
noncomputable def pol_Z68:Pol := ⟨21,[],[(2,⟨[0,1,7,8],[],[],[],[],[],[]⟩)],[],[],[]⟩
noncomputable def pol_Z3:Pol := ⟨7,[],[],[],[],[]⟩
noncomputable def pol_Z1:Pol := ⟨22,[],[],[],[],[]⟩
noncomputable def pol_Z4:Pol := ⟨7,[],[],[],[],[]⟩
noncomputable def sigL:List (Option Sig) := [none,none,none,none,none,some sg_Z31,some sg_Z48,none,some sg_Z51,none,some sg_Z32,some sg_Z43,some sg_Z38,none,none,some sg_Z71,some sg_Z5,some sg_Z37,some sg_Z47,some sg_Z42,some sg_Z50,some sg_Z83,none,none,some sg_Z53,some sg_Z7,some sg_Z21,none,none,some sg_Z34,some sg_Z45,some sg_Z40,none,none,none,some sg_Z86,some sg_Z73,some sg_Z87,some sg_Z9,some sg_Z28,some sg_Z27,some sg_Z16,some sg_Z25,some sg_Z6,some sg_Z29,some sg_Z33,some sg_Z36,some sg_Z44,some sg_Z46,some sg_Z39,some sg_Z41,some sg_Z49,some sg_Z84,some sg_Z79,some sg_Z82,some sg_Z80,none,some sg_Z74,some sg_Z52,some sg_Z10,some sg_Z13,some sg_Z60,some sg_Z18,some sg_Z8,some sg_Z22,some sg_Z14,some sg_Z70,some sg_Z57,some sg_Z64,none,none,none,some sg_Z72,some sg_Z85,some sg_Z81,some sg_Z78,some sg_Z56,some sg_Z12,some sg_Z15,some sg_Z19,some sg_Z30,some sg_Z35,some sg_Z75,some sg_Z76,some sg_Z23,some sg_Z62,some sg_Z11,some sg_Z24,some sg_Z2,some sg_Z0,some sg_Z58,some sg_Z66,some sg_Z59,some sg_Z54,none,none,none,none,some sg_Z77,some sg_Z17,some sg_Z68,some sg_Z3,some sg_Z1,some sg_Z65,none,none,none,none,none,none,none,none,none,none,none,some sg_Z4,none,none,none,none,none,none,none,none,none,none,none,none,none,none,none,none,none,none,none,none,none,none,none]
noncomputable def fnL:List (Option (Func × Pol)) := [none,none,none,none,none,some (F_Z31,pol_Z31),some (F_Z48,pol_Z48),none,some (F_Z51,pol_Z51),none,some (F_Z32,pol_Z32),some (F_Z43,pol_Z43),some (F_Z38,pol_Z38),none,none,some (F_Z71,pol_Z71),some (F_Z5,pol_Z5),some (F_Z37,pol_Z37),some (F_Z47,pol_Z47),some (F_Z42,pol_Z42),some (F_Z50,pol_Z50),some (F_Z83,pol_Z83),none,none,some (F_Z53,pol_Z53),some (F_Z7,pol_Z7),some (F_Z21,pol_Z21),none,none,some (F_Z34,pol_Z34),none,some (F_Z40,pol_Z40),none,none,none,some (F_Z86,pol_Z86),some (F_Z73,pol_Z73),some (F_Z87,pol_Z87),some (F_Z9,pol_Z9),some (F_Z28,pol_Z28),some (F_Z27,pol_Z27),some (F_Z16,pol_Z16),some (F_Z25,pol_Z25),some (F_Z6,pol_Z6),some (F_Z29,pol_Z29),some (F_Z33,pol_Z33),some (F_Z36,pol_Z36),some (F_Z44,pol_Z44),none,some (F_Z39,pol_Z39),some (F_Z41,pol_Z41),some (F_Z49,pol_Z49),some (F_Z84,pol_Z84),some (F_Z79,pol_Z79),some (F_Z82,pol_Z82),some (F_Z80,pol_Z80),none,some (F_Z74,pol_Z74),some (F_Z52,pol_Z52),some (F_Z10,pol_Z10),some (F_Z13,pol_Z13),some (F_Z60,pol_Z60),some (F_Z18,pol_Z18),some (F_Z8,pol_Z8),some (F_Z22,pol_Z22),some (F_Z14,pol_Z14),none,none,some (F_Z64,pol_Z64),none,none,none,some (F_Z72,pol_Z72),some (F_Z85,pol_Z85),some (F_Z81,pol_Z81),some (F_Z78,pol_Z78),some (F_Z56,pol_Z56),some (F_Z12,pol_Z12),some (F_Z15,pol_Z15),some (F_Z19,pol_Z19),some (F_Z30,pol_Z30),some (F_Z35,pol_Z35),some (F_Z75,pol_Z75),some (F_Z76,pol_Z76),some (F_Z23,pol_Z23),some (F_Z62,pol_Z62),some (F_Z11,pol_Z11),some (F_Z24,pol_Z24),some (F_Z2,pol_Z2),some (F_Z0,pol_Z0),some (F_Z58,pol_Z58),some (F_Z66,pol_Z66),some (F_Z59,pol_Z59),some (F_Z54,pol_Z54),none,none,none,none,some (F_Z77,pol_Z77),some (F_Z17,pol_Z17),some (F_Z68,pol_Z68),some (F_Z3,pol_Z3),some (F_Z1,pol_Z1),none,none,none,none,none,none,none,none,none,none,none,none,some (F_Z4,pol_Z4),none,none,none,none,none,none,none,none,none,none,none,none,none,none,none,none,none,none,none,none,none,none,none]
noncomputable def primL:List (Option (Run → List Dv → Option Dv)) := [none,none,none,none,none,none,none,none,none,none,none,none,none,none,none,none,none,none,none,none,none,none,none,none,none,none,none,none,none,none,some (pMarkSS n_Z44),none,none,none,none,none,none,none,none,none,none,none,none,none,none,none,none,none,some (pMarkMS n_Z44),none,none,none,none,none,none,none,none,none,none,none,none,none,none,none,none,none,some (pSortF n_Z13),some (pCompF n_Z64),none,none,none,none,none,none,none,none,none,none,none,none,none,none,none,none,none,none,none,none,none,none,none,none,none,none,none,none,none,none,none,none,none,none,none,some (pGrow yI),none,none,none,none,none,none,none,none,none,none,none,none,none,none,none,none,none,none,none,none,none,none,none,none,none,none,none,none,none,none,none,none,none,none,none]
noncomputable def E:Env := { P := Try.prog,fn := fun f => fnL.getD f none,prim := fun f => primL.getD f none,sig := fun f => sigL.getD f none }
theorem sig_laws_FnExactPointSheaf_eq:E.sig n_Z31 = some sg_Z31 := rfl
theorem run_Z31 (n:Nat) (args:List Dv):run E (n + 1) n_Z31 args = evFn E (mkR (run E n)) sg_Z31 pol_Z31 F_Z31 n args := rfl
theorem sig_laws_szComplex_eq:E.sig n_Z48 = some sg_Z48 := rfl
theorem run_Z48 (n:Nat) (args:List Dv):run E (n + 1) n_Z48 args = evFn E (mkR (run E n)) sg_Z48 pol_Z48 F_Z48 n args := rfl
theorem sig_laws_toComplex_eq:E.sig n_Z51 = some sg_Z51 := rfl
theorem run_Z51 (n:Nat) (args:List Dv):run E (n + 1) n_Z51 args = evFn E (mkR (run E n)) sg_Z51 pol_Z51 F_Z51 n args := rfl
theorem sig_laws_eqComplex_eq:E.sig n_Z32 = some sg_Z32 := rfl
theorem run_Z32 (n:Nat) (args:List Dv):run E (n + 1) n_Z32 args = evFn E (mkR (run E n)) sg_Z32 pol_Z32 F_Z32 n args := rfl
theorem sig_laws_markComplex_eq:E.sig n_Z43 = some sg_Z43 := rfl
theorem run_Z43 (n:Nat) (args:List Dv):run E (n + 1) n_Z43 args = evFn E (mkR (run E n)) sg_Z43 pol_Z43 F_Z43 n args := rfl
theorem sig_laws_heldComplex_eq:E.sig n_Z38 = some sg_Z38 := rfl
theorem run_Z38 (n:Nat) (args:List Dv):run E (n + 1) n_Z38 args = evFn E (mkR (run E n)) sg_Z38 pol_Z38 F_Z38 n args := rfl
theorem sig_spec_PointSheaf_eq:E.sig n_Z71 = some sg_Z71 := rfl
theorem run_Z71 (n:Nat) (args:List Dv):run E (n + 1) n_Z71 args = evFn E (mkR (run E n)) sg_Z71 pol_Z71 F_Z71 n args := rfl
theorem sig_impl_PointSheaf_eq:E.sig n_Z5 = some sg_Z5 := rfl
theorem run_Z5 (n:Nat) (args:List Dv):run E (n + 1) n_Z5 args = evFn E (mkR (run E n)) sg_Z5 pol_Z5 F_Z5 n args := rfl
theorem sig_laws_eqSheaf_eq:E.sig n_Z37 = some sg_Z37 := rfl
theorem run_Z37 (n:Nat) (args:List Dv):run E (n + 1) n_Z37 args = evFn E (mkR (run E n)) sg_Z37 pol_Z37 F_Z37 n args := rfl
theorem sig_laws_markSheaf_eq:E.sig n_Z47 = some sg_Z47 := rfl
theorem run_Z47 (n:Nat) (args:List Dv):run E (n + 1) n_Z47 args = evFn E (mkR (run E n)) sg_Z47 pol_Z47 F_Z47 n args := rfl
theorem sig_laws_heldSheaf_eq:E.sig n_Z42 = some sg_Z42 := rfl
theorem run_Z42 (n:Nat) (args:List Dv):run E (n + 1) n_Z42 args = evFn E (mkR (run E n)) sg_Z42 pol_Z42 F_Z42 n args := rfl
theorem sig_laws_szInt64SS_eq:E.sig n_Z50 = some sg_Z50 := rfl
theorem run_Z50 (n:Nat) (args:List Dv):run E (n + 1) n_Z50 args = evFn E (mkR (run E n)) sg_Z50 pol_Z50 F_Z50 n args := rfl
theorem sig_spec_l05Ok_eq:E.sig n_Z83 = some sg_Z83 := rfl
theorem run_Z83 (n:Nat) (args:List Dv):run E (n + 1) n_Z83 args = evFn E (mkR (run E n)) sg_Z83 pol_Z83 F_Z83 n args := rfl
theorem sig_laws_toInt64SS_eq:E.sig n_Z53 = some sg_Z53 := rfl
theorem run_Z53 (n:Nat) (args:List Dv):run E (n + 1) n_Z53 args = evFn E (mkR (run E n)) sg_Z53 pol_Z53 F_Z53 n args := rfl
theorem sig_impl_ValidComplex_eq:E.sig n_Z7 = some sg_Z7 := rfl
theorem run_Z7 (n:Nat) (args:List Dv):run E (n + 1) n_Z7 args = evFn E (mkR (run E n)) sg_Z7 pol_Z7 F_Z7 n args := rfl
theorem sig_impl_inOrder_eq:E.sig n_Z21 = some sg_Z21 := rfl
theorem run_Z21 (n:Nat) (args:List Dv):run E (n + 1) n_Z21 args = evFn E (mkR (run E n)) sg_Z21 pol_Z21 F_Z21 n args := rfl
theorem sig_laws_eqInt64SS_eq:E.sig n_Z34 = some sg_Z34 := rfl
theorem run_Z34 (n:Nat) (args:List Dv):run E (n + 1) n_Z34 args = evFn E (mkR (run E n)) sg_Z34 pol_Z34 F_Z34 n args := rfl
theorem sig_laws_markInt64SS_eq:E.sig n_Z45 = some sg_Z45 := rfl
theorem sig_laws_heldInt64SS_eq:E.sig n_Z40 = some sg_Z40 := rfl
theorem run_Z40 (n:Nat) (args:List Dv):run E (n + 1) n_Z40 args = evFn E (mkR (run E n)) sg_Z40 pol_Z40 F_Z40 n args := rfl
theorem sig_spec_l09Base_eq:E.sig n_Z86 = some sg_Z86 := rfl
theorem run_Z86 (n:Nat) (args:List Dv):run E (n + 1) n_Z86 args = evFn E (mkR (run E n)) sg_Z86 pol_Z86 F_Z86 n args := rfl
theorem sig_spec_l00In_eq:E.sig n_Z73 = some sg_Z73 := rfl
theorem run_Z73 (n:Nat) (args:List Dv):run E (n + 1) n_Z73 args = evFn E (mkR (run E n)) sg_Z73 pol_Z73 F_Z73 n args := rfl
theorem sig_spec_l09New_eq:E.sig n_Z87 = some sg_Z87 := rfl
theorem run_Z87 (n:Nat) (args:List Dv):run E (n + 1) n_Z87 args = evFn E (mkR (run E n)) sg_Z87 pol_Z87 F_Z87 n args := rfl
theorem sig_impl_ValidPrime_eq:E.sig n_Z9 = some sg_Z9 := rfl
theorem run_Z9 (n:Nat) (args:List Dv):run E (n + 1) n_Z9 args = evFn E (mkR (run E n)) sg_Z9 pol_Z9 F_Z9 n args := rfl
theorem sig_impl_within_eq:E.sig n_Z28 = some sg_Z28 := rfl
theorem run_Z28 (n:Nat) (args:List Dv):run E (n + 1) n_Z28 args = evFn E (mkR (run E n)) sg_Z28 pol_Z28 F_Z28 n args := rfl
theorem sig_impl_size_Sint64_eq:E.sig n_Z27 = some sg_Z27 := rfl
theorem run_Z27 (n:Nat) (args:List Dv):run E (n + 1) n_Z27 args = evFn E (mkR (run E n)) sg_Z27 pol_Z27 F_Z27 n args := rfl
theorem sig_impl_equalStalks_eq:E.sig n_Z16 = some sg_Z16 := rfl
theorem run_Z16 (n:Nat) (args:List Dv):run E (n + 1) n_Z16 args = evFn E (mkR (run E n)) sg_Z16 pol_Z16 F_Z16 n args := rfl
theorem sig_impl_sheafOf_eq:E.sig n_Z25 = some sg_Z25 := rfl
theorem run_Z25 (n:Nat) (args:List Dv):run E (n + 1) n_Z25 args = evFn E (mkR (run E n)) sg_Z25 pol_Z25 F_Z25 n args := rfl
theorem sig_impl_PointSheaf_1_eq:E.sig n_Z6 = some sg_Z6 := rfl
theorem run_Z6 (n:Nat) (args:List Dv):run E (n + 1) n_Z6 args = evFn E (mkR (run E n)) sg_Z6 pol_Z6 F_Z6 n args := rfl
theorem sig_impl_zero_eq:E.sig n_Z29 = some sg_Z29 := rfl
theorem run_Z29 (n:Nat) (args:List Dv):run E (n + 1) n_Z29 args = evFn E (mkR (run E n)) sg_Z29 pol_Z29 F_Z29 n args := rfl
theorem sig_laws_eqInt64S_eq:E.sig n_Z33 = some sg_Z33 := rfl
theorem run_Z33 (n:Nat) (args:List Dv):run E (n + 1) n_Z33 args = evFn E (mkR (run E n)) sg_Z33 pol_Z33 F_Z33 n args := rfl
theorem sig_laws_eqMatrixS_eq:E.sig n_Z36 = some sg_Z36 := rfl
theorem run_Z36 (n:Nat) (args:List Dv):run E (n + 1) n_Z36 args = evFn E (mkR (run E n)) sg_Z36 pol_Z36 F_Z36 n args := rfl
theorem sig_laws_markInt64S_eq:E.sig n_Z44 = some sg_Z44 := rfl
theorem run_Z44 (n:Nat) (args:List Dv):run E (n + 1) n_Z44 args = evFn E (mkR (run E n)) sg_Z44 pol_Z44 F_Z44 n args := rfl
theorem sig_laws_markMatrixS_eq:E.sig n_Z46 = some sg_Z46 := rfl
theorem sig_laws_heldInt64S_eq:E.sig n_Z39 = some sg_Z39 := rfl
theorem run_Z39 (n:Nat) (args:List Dv):run E (n + 1) n_Z39 args = evFn E (mkR (run E n)) sg_Z39 pol_Z39 F_Z39 n args := rfl
theorem sig_laws_heldMatrixS_eq:E.sig n_Z41 = some sg_Z41 := rfl
theorem run_Z41 (n:Nat) (args:List Dv):run E (n + 1) n_Z41 args = evFn E (mkR (run E n)) sg_Z41 pol_Z41 F_Z41 n args := rfl
theorem sig_laws_szInt64S_eq:E.sig n_Z49 = some sg_Z49 := rfl
theorem run_Z49 (n:Nat) (args:List Dv):run E (n + 1) n_Z49 args = evFn E (mkR (run E n)) sg_Z49 pol_Z49 F_Z49 n args := rfl
theorem sig_spec_l05Simplex_eq:E.sig n_Z84 = some sg_Z84 := rfl
theorem run_Z84 (n:Nat) (args:List Dv):run E (n + 1) n_Z84 args = evFn E (mkR (run E n)) sg_Z84 pol_Z84 F_Z84 n args := rfl
theorem sig_spec_l05Before_eq:E.sig n_Z79 = some sg_Z79 := rfl
theorem run_Z79 (n:Nat) (args:List Dv):run E (n + 1) n_Z79 args = evFn E (mkR (run E n)) sg_Z79 pol_Z79 F_Z79 n args := rfl
theorem sig_spec_l05Find_eq:E.sig n_Z82 = some sg_Z82 := rfl
theorem run_Z82 (n:Nat) (args:List Dv):run E (n + 1) n_Z82 args = evFn E (mkR (run E n)) sg_Z82 pol_Z82 F_Z82 n args := rfl
theorem sig_spec_l05Drop_eq:E.sig n_Z80 = some sg_Z80 := rfl
theorem run_Z80 (n:Nat) (args:List Dv):run E (n + 1) n_Z80 args = evFn E (mkR (run E n)) sg_Z80 pol_Z80 F_Z80 n args := rfl
theorem sig_spec_l00Own_eq:E.sig n_Z74 = some sg_Z74 := rfl
theorem run_Z74 (n:Nat) (args:List Dv):run E (n + 1) n_Z74 args = evFn E (mkR (run E n)) sg_Z74 pol_Z74 F_Z74 n args := rfl
theorem sig_laws_toInt64S_eq:E.sig n_Z52 = some sg_Z52 := rfl
theorem run_Z52 (n:Nat) (args:List Dv):run E (n + 1) n_Z52 args = evFn E (mkR (run E n)) sg_Z52 pol_Z52 F_Z52 n args := rfl
theorem sig_impl_ValidSimplex_eq:E.sig n_Z10 = some sg_Z10 := rfl
theorem run_Z10 (n:Nat) (args:List Dv):run E (n + 1) n_Z10 args = evFn E (mkR (run E n)) sg_Z10 pol_Z10 F_Z10 n args := rfl
theorem sig_impl_compareSimplices_eq:E.sig n_Z13 = some sg_Z13 := rfl
theorem run_Z13 (n:Nat) (args:List Dv):run E (n + 1) n_Z13 args = evFn E (mkR (run E n)) sg_Z13 pol_Z13 F_Z13 n args := rfl
theorem sig_slices_ContainsFunc_SSint64_Sint64_eq:E.sig n_Z60 = some sg_Z60 := rfl
theorem run_Z60 (n:Nat) (args:List Dv):run E (n + 1) n_Z60 args = evFn E (mkR (run E n)) sg_Z60 pol_Z60 F_Z60 n args := rfl
theorem sig_impl_facesOf_eq:E.sig n_Z18 = some sg_Z18 := rfl
theorem run_Z18 (n:Nat) (args:List Dv):run E (n + 1) n_Z18 args = evFn E (mkR (run E n)) sg_Z18 pol_Z18 F_Z18 n args := rfl
theorem sig_impl_ValidComplex_1_eq:E.sig n_Z8 = some sg_Z8 := rfl
theorem run_Z8 (n:Nat) (args:List Dv):run E (n + 1) n_Z8 args = evFn E (mkR (run E n)) sg_Z8 pol_Z8 F_Z8 n args := rfl
theorem sig_impl_indexOf_eq:E.sig n_Z22 = some sg_Z22 := rfl
theorem run_Z22 (n:Nat) (args:List Dv):run E (n + 1) n_Z22 args = evFn E (mkR (run E n)) sg_Z22 pol_Z22 F_Z22 n args := rfl
theorem sig_impl_copyLists_eq:E.sig n_Z14 = some sg_Z14 := rfl
theorem run_Z14 (n:Nat) (args:List Dv):run E (n + 1) n_Z14 args = evFn E (mkR (run E n)) sg_Z14 pol_Z14 F_Z14 n args := rfl
theorem sig_slices_SortFunc_SSint64_Sint64_eq:E.sig n_Z70 = some sg_Z70 := rfl
theorem sig_slices_CompactFunc_SSint64_Sint64_eq:E.sig n_Z57 = some sg_Z57 := rfl
theorem sig_slices_Equal_Sint64_int64_eq:E.sig n_Z64 = some sg_Z64 := rfl
theorem run_Z64 (n:Nat) (args:List Dv):run E (n + 1) n_Z64 args = evFn E (mkR (run E n)) sg_Z64 pol_Z64 F_Z64 n args := rfl
theorem sig_spec_ValidPrime_eq:E.sig n_Z72 = some sg_Z72 := rfl
theorem run_Z72 (n:Nat) (args:List Dv):run E (n + 1) n_Z72 args = evFn E (mkR (run E n)) sg_Z72 pol_Z72 F_Z72 n args := rfl
theorem sig_spec_l05Skeleton_eq:E.sig n_Z85 = some sg_Z85 := rfl
theorem run_Z85 (n:Nat) (args:List Dv):run E (n + 1) n_Z85 args = evFn E (mkR (run E n)) sg_Z85 pol_Z85 F_Z85 n args := rfl
theorem sig_spec_l05Faces_eq:E.sig n_Z81 = some sg_Z81 := rfl
theorem run_Z81 (n:Nat) (args:List Dv):run E (n + 1) n_Z81 args = evFn E (mkR (run E n)) sg_Z81 pol_Z81 F_Z81 n args := rfl
theorem sig_spec_l03Zero_eq:E.sig n_Z78 = some sg_Z78 := rfl
theorem run_Z78 (n:Nat) (args:List Dv):run E (n + 1) n_Z78 args = evFn E (mkR (run E n)) sg_Z78 pol_Z78 F_Z78 n args := rfl
theorem sig_slices_Clone_Sint64_int64_eq:E.sig n_Z56 = some sg_Z56 := rfl
theorem run_Z56 (n:Nat) (args:List Dv):run E (n + 1) n_Z56 args = evFn E (mkR (run E n)) sg_Z56 pol_Z56 F_Z56 n args := rfl
theorem sig_impl_arrows_eq:E.sig n_Z12 = some sg_Z12 := rfl
theorem run_Z12 (n:Nat) (args:List Dv):run E (n + 1) n_Z12 args = evFn E (mkR (run E n)) sg_Z12 pol_Z12 F_Z12 n args := rfl
theorem sig_impl_copyMatrix_eq:E.sig n_Z15 = some sg_Z15 := rfl
theorem run_Z15 (n:Nat) (args:List Dv):run E (n + 1) n_Z15 args = evFn E (mkR (run E n)) sg_Z15 pol_Z15 F_Z15 n args := rfl
theorem sig_impl_filled_eq:E.sig n_Z19 = some sg_Z19 := rfl
theorem run_Z19 (n:Nat) (args:List Dv):run E (n + 1) n_Z19 args = evFn E (mkR (run E n)) sg_Z19 pol_Z19 F_Z19 n args := rfl
theorem sig_impl_zero_1_eq:E.sig n_Z30 = some sg_Z30 := rfl
theorem run_Z30 (n:Nat) (args:List Dv):run E (n + 1) n_Z30 args = evFn E (mkR (run E n)) sg_Z30 pol_Z30 F_Z30 n args := rfl
theorem sig_laws_eqMatrix_eq:E.sig n_Z35 = some sg_Z35 := rfl
theorem run_Z35 (n:Nat) (args:List Dv):run E (n + 1) n_Z35 args = evFn E (mkR (run E n)) sg_Z35 pol_Z35 F_Z35 n args := rfl
theorem sig_spec_l00Rises_eq:E.sig n_Z75 = some sg_Z75 := rfl
theorem run_Z75 (n:Nat) (args:List Dv):run E (n + 1) n_Z75 args = evFn E (mkR (run E n)) sg_Z75 pol_Z75 F_Z75 n args := rfl
theorem sig_spec_l00Same_eq:E.sig n_Z76 = some sg_Z76 := rfl
theorem run_Z76 (n:Nat) (args:List Dv):run E (n + 1) n_Z76 args = evFn E (mkR (run E n)) sg_Z76 pol_Z76 F_Z76 n args := rfl
theorem sig_impl_isRising_eq:E.sig n_Z23 = some sg_Z23 := rfl
theorem run_Z23 (n:Nat) (args:List Dv):run E (n + 1) n_Z23 args = evFn E (mkR (run E n)) sg_Z23 pol_Z23 F_Z23 n args := rfl
theorem sig_slices_ContainsFunc_Sint64_int64_eq:E.sig n_Z62 = some sg_Z62 := rfl
theorem run_Z62 (n:Nat) (args:List Dv):run E (n + 1) n_Z62 args = evFn E (mkR (run E n)) sg_Z62 pol_Z62 F_Z62 n args := rfl
theorem sig_impl_ValidSimplex_1_eq:E.sig n_Z11 = some sg_Z11 := rfl
theorem run_Z11 (n:Nat) (args:List Dv):run E (n + 1) n_Z11 args = evFn E (mkR (run E n)) sg_Z11 pol_Z11 F_Z11 n args := rfl
theorem sig_impl_isVertex_eq:E.sig n_Z24 = some sg_Z24 := rfl
theorem run_Z24 (n:Nat) (args:List Dv):run E (n + 1) n_Z24 args = evFn E (mkR (run E n)) sg_Z24 pol_Z24 F_Z24 n args := rfl
theorem sig_cmp_Or_int_eq:E.sig n_Z2 = some sg_Z2 := rfl
theorem run_Z2 (n:Nat) (args:List Dv):run E (n + 1) n_Z2 args = evFn E (mkR (run E n)) sg_Z2 pol_Z2 F_Z2 n args := rfl
theorem sig_cmp_Compare_int_eq:E.sig n_Z0 = some sg_Z0 := rfl
theorem run_Z0 (n:Nat) (args:List Dv):run E (n + 1) n_Z0 args = evFn E (mkR (run E n)) sg_Z0 pol_Z0 F_Z0 n args := rfl
theorem sig_slices_Compare_Sint64_int64_eq:E.sig n_Z58 = some sg_Z58 := rfl
theorem run_Z58 (n:Nat) (args:List Dv):run E (n + 1) n_Z58 args = evFn E (mkR (run E n)) sg_Z58 pol_Z58 F_Z58 n args := rfl
theorem sig_slices_IndexFunc_SSint64_Sint64_eq:E.sig n_Z66 = some sg_Z66 := rfl
theorem run_Z66 (n:Nat) (args:List Dv):run E (n + 1) n_Z66 args = evFn E (mkR (run E n)) sg_Z66 pol_Z66 F_Z66 n args := rfl
theorem sig_slices_Concat_Sint64_int64_eq:E.sig n_Z59 = some sg_Z59 := rfl
theorem run_Z59 (n:Nat) (args:List Dv):run E (n + 1) n_Z59 args = evFn E (mkR (run E n)) sg_Z59 pol_Z59 F_Z59 n args := rfl
theorem sig_slices_BinarySearchFunc_SSint64_Sint64_Sint64_eq:E.sig n_Z54 = some sg_Z54 := rfl
theorem run_Z54 (n:Nat) (args:List Dv):run E (n + 1) n_Z54 args = evFn E (mkR (run E n)) sg_Z54 pol_Z54 F_Z54 n args := rfl
theorem sig_spec_l02Prime_eq:E.sig n_Z77 = some sg_Z77 := rfl
theorem run_Z77 (n:Nat) (args:List Dv):run E (n + 1) n_Z77 args = evFn E (mkR (run E n)) sg_Z77 pol_Z77 F_Z77 n args := rfl
theorem sig_impl_faceIndices_eq:E.sig n_Z17 = some sg_Z17 := rfl
theorem run_Z17 (n:Nat) (args:List Dv):run E (n + 1) n_Z17 args = evFn E (mkR (run E n)) sg_Z17 pol_Z17 F_Z17 n args := rfl
theorem sig_slices_IndexFunc_Sint64_int64_eq:E.sig n_Z68 = some sg_Z68 := rfl
theorem run_Z68 (n:Nat) (args:List Dv):run E (n + 1) n_Z68 args = evFn E (mkR (run E n)) sg_Z68 pol_Z68 F_Z68 n args := rfl
theorem sig_cmp_isNaN_int_eq:E.sig n_Z3 = some sg_Z3 := rfl
theorem run_Z3 (n:Nat) (args:List Dv):run E (n + 1) n_Z3 args = evFn E (mkR (run E n)) sg_Z3 pol_Z3 F_Z3 n args := rfl
theorem sig_cmp_Compare_int64_eq:E.sig n_Z1 = some sg_Z1 := rfl
theorem run_Z1 (n:Nat) (args:List Dv):run E (n + 1) n_Z1 args = evFn E (mkR (run E n)) sg_Z1 pol_Z1 F_Z1 n args := rfl
theorem sig_slices_Grow_Sint64_int64_eq:E.sig n_Z65 = some sg_Z65 := rfl
theorem sig_cmp_isNaN_int64_eq:E.sig n_Z4 = some sg_Z4 := rfl
theorem run_Z4 (n:Nat) (args:List Dv):run E (n + 1) n_Z4 args = evFn E (mkR (run E n)) sg_Z4 pol_Z4 F_Z4 n args := rfl
@[reducible] noncomputable def eC (R:Run) (q:Pol) (N:Nat) (l:List Nat) (F:Func) := evCode E R q N (sub l (bodyOf F))
@[reducible] noncomputable def kB (R:Run) (q:Pol) (k:Nat) (K:Kt) := kBlk (maskAt R q.blkM k) k K
@[reducible] noncomputable def kS (R:Run) (q:Pol) (k N:Nat) (l:List Nat) (F:Func) (K:Kt) := kSeq (maskAt R q.seqM k) (evCode E R q N (sub l (bodyOf F))) K
@[reducible] noncomputable def kL (R:Run) (q:Pol) (k N:Nat) (l:List Nat) (F:Func) (n:Nat) (K:Kt) := kLoop (evCode E R q N (sub l (bodyOf F))) (maskAt R q.loopM k) n K
@[reducible] noncomputable def lC (R:Run) (q:Pol) (k N:Nat) (l:List Nat) (F:Func) (n:Nat) (s:Ve.St) (K:Kt) := loopC (evCode E R q N (sub l (bodyOf F))) (maskAt R q.loopM k) n s K
end VeT

open Go Go.Proofs Ve
set_option linter.unusedVariables false
set_option maxRecDepth 100000
namespace VeT
@[reducible] noncomputable def q0_0 (R:Run) (N:Nat):=kS R pol_Z83 5 N [1,1,0,1,0,0,1,1] F_Z83
@[reducible] noncomputable def q0_1 (R:Run) (N:Nat):=kS R pol_Z83 14 N [1,1,1] F_Z83
@[reducible] noncomputable def q0_2 (R:Run) (N:Nat):=kL R pol_Z83 4 N [1,1,0,1,0,0] F_Z83
theorem Z49.ev (R:Run) (N:Nat) (a0:(List Int)) (a1:Int):evFn E R sg_Z49 pol_Z49 F_Z49 N [⟨yL,a0⟩,⟨yI,a1⟩] = (bif (decide ((w64 (a1 - (List.length a0:Int))) < (0:Int))) then some ⟨o_Z49,((-1:Int),())⟩ else some ⟨o_Z49,((w64 (a1 - (List.length a0:Int))),())⟩) := by kernel_rfl
noncomputable def Z50.l0 (R:Run) (N n:Nat) (a:vK) (b e:Int):Option Dv := R.w (some ⟨(.c (.d yK a)::(.c (.d yI b)::(zd 3 (.c (.d yI e)::(zd 21 []))))),(zo 29 [])⟩) fun st => lC R pol_Z50 5 N [1,1,1,0,1,0,0] F_Z50 n st (kB R pol_Z50 0 (kS R pol_Z50 10 N [1,1,1,1] F_Z50 (kTop E sg_Z50 F_Z50)))
theorem Z50.l0_succ (R:Run) (hw:R.ok) (N n:Nat) (a:vK) (b c:Int):Z50.l0 R N (n + 1) a b c = (bif (decide (c < (List.length a:Int))) then ((idx? a c).bind fun y4 => ((callT R n_Z49 o_Z49 [⟨yL,(y4,()).1⟩,⟨yI,b⟩]).bind fun r5 => (bif (decide (r5.1 < (0:Int))) then some ⟨o_Z50,((-1:Int),())⟩ else (Z50.l0 R N n a r5.1 (w64 (c + (1:Int))))))) else some ⟨o_Z50,(b,())⟩) := (hw _ _).trans (by kernel_rfl)
theorem Z50.ev (R:Run) (N:Nat) (a0:vK) (a1:Int):evFn E R sg_Z50 pol_Z50 F_Z50 N [⟨yK,a0⟩,⟨yI,a1⟩] = (bif (decide ((w64 (a1 - (List.length a0:Int))) < (0:Int))) then some ⟨o_Z50,((-1:Int),())⟩ else (Z50.l0 R N N a0 (w64 (a1 - (List.length a0:Int))) (0:Int))) := by kernel_rfl
theorem Z48.ev (R:Run) (N:Nat) (a0:vK) (a1:Int):evFn E R sg_Z48 pol_Z48 F_Z48 N [⟨yK,a0⟩,⟨yI,a1⟩] = ((callT R n_Z50 o_Z50 [⟨yK,a0⟩,⟨yI,a1⟩]).bind fun r1 => (bif (decide (r1.1 < (0:Int))) then some ⟨o_Z48,((-1:Int),())⟩ else some ⟨o_Z48,(r1.1,())⟩)) := by kernel_rfl
noncomputable def Z52.l0 (R:Run) (N n:Nat) (a:(List Int)) (b:Int) (e:(List Int)):Option Dv := R.w (some ⟨(.c (.d yL a)::(V.dead::(V.dead::(.c (.arr 7)::(.c (.d yI b)::(zd 17 [])))))),(zo 7 (some (.arr yI e true false false)::(zo 15 [])))⟩) fun st => lC R pol_Z52 3 N [1,1,0,1,0,0] F_Z52 n st (kB R pol_Z52 0 (kS R pol_Z52 6 N [1,1,1] F_Z52 (kTop E sg_Z52 F_Z52)))
theorem Z52.l0_succ (R:Run) (hw:R.ok) (N n:Nat) (a:(List Int)) (b:Int) (c:(List Int)):Z52.l0 R N (n + 1) a b c = (bif (decide (b < (List.length a:Int))) then ((idx? a b).bind fun y4 => ((chk (decide (0 ≤ b) && decide (b < (List.length c:Int)))).bind fun _ => (Z52.l0 R N n a (w64 (b + (1:Int))) (List.set c (Int.toNat b) (y4,()).1)))) else some ⟨o_Z52,(c,())⟩) := (hw _ _).trans (by kernel_rfl)
theorem Z52.ev (R:Run) (N:Nat) (a0:(List Int)):evFn E R sg_Z52 pol_Z52 F_Z52 N [⟨yL,a0⟩] = ((chk (decide (0 ≤ (List.length a0:Int)) && decide ((List.length a0:Int) * 8 ≤ 70368744177664))).bind fun _ => (Z52.l0 R N N a0 (0:Int) (List.replicate (Int.toNat (List.length a0:Int)) (0:Int)))) := by kernel_rfl
noncomputable def Z53.l0 (R:Run) (N n:Nat) (a:vK) (b:Int) (e:vK):Option Dv := R.w (some ⟨(.c (.d yK a)::(V.dead::(V.dead::(.c (.arr 7)::(.c (.d yI b)::(zd 18 [])))))),(zo 7 (some (.arr yL e true false false)::(zo 17 [])))⟩) fun st => lC R pol_Z53 3 N [1,1,0,1,0,0] F_Z53 n st (kB R pol_Z53 0 (kS R pol_Z53 6 N [1,1,1] F_Z53 (kTop E sg_Z53 F_Z53)))
theorem Z53.l0_succ (R:Run) (hw:R.ok) (N n:Nat) (a:vK) (b:Int) (c:vK):Z53.l0 R N (n + 1) a b c = (bif (decide (b < (List.length a:Int))) then ((idx? a b).bind fun y4 => ((callT R n_Z52 o_Z52 [⟨yL,(y4,()).1⟩]).bind fun r5 => ((chk (decide (0 ≤ b) && decide (b < (List.length c:Int)))).bind fun _ => (Z53.l0 R N n a (w64 (b + (1:Int))) (List.set c (Int.toNat b) r5.1))))) else some ⟨o_Z53,(c,())⟩) := (hw _ _).trans (by kernel_rfl)
theorem Z53.ev (R:Run) (N:Nat) (a0:vK):evFn E R sg_Z53 pol_Z53 F_Z53 N [⟨yK,a0⟩] = ((chk (decide (0 ≤ (List.length a0:Int)) && decide ((List.length a0:Int) * 24 ≤ 70368744177664))).bind fun _ => (Z53.l0 R N N a0 (0:Int) (List.replicate (Int.toNat (List.length a0:Int)) ([]:List Int)))) := by kernel_rfl
theorem Z51.ev (R:Run) (N:Nat) (a0:vK):evFn E R sg_Z51 pol_Z51 F_Z51 N [⟨yK,a0⟩] = ((callT R n_Z53 o_Z53 [⟨yK,a0⟩]).bind fun r1 => some ⟨o_Z51,(r1.1,())⟩) := by kernel_rfl
theorem Z73.ev (R:Run) (N:Nat) (a0 a1 a2:Int):evFn E R sg_Z73 pol_Z73 F_Z73 N [⟨yI,a0⟩,⟨yI,a1⟩,⟨yI,a2⟩] = (bif (decide (a0 ≥ a1)) then some ⟨o_Z73,((decide (a0 ≤ a2)),())⟩ else some ⟨o_Z73,(false,())⟩) := by kernel_rfl
noncomputable def Z75.j1 (R:Run) (N a:Nat) (b:(List Int)) (e f g:Int) (h:Bool):Option Dv := R.w (some ⟨(.c (.d yL b)::(.c (.d yI e)::(.c (.d yI f)::(zd 4 (.c (.d yI g)::(zd 29 (.c (.d .bool h)::[]))))))),(zo 41 [])⟩) fun st => eC R pol_Z75 N [1,0,1,0,0,1,0,0,1] F_Z75 st (kB R pol_Z75 1 (kS R pol_Z75 3 N [1,0,1,0,0,1,1] F_Z75 (kL R pol_Z75 2 N [1,0,1,0,0] F_Z75 a (kB R pol_Z75 0 (kS R pol_Z75 6 N [1,1] F_Z75 (kTop E sg_Z75 F_Z75))))))
noncomputable def Z75.l0 (R:Run) (N n:Nat) (a:(List Int)) (b e f:Int):Option Dv := R.w (some ⟨(.c (.d yL a)::(.c (.d yI b)::(.c (.d yI e)::(zd 4 (.c (.d yI f)::(zd 30 [])))))),(zo 41 [])⟩) fun st => lC R pol_Z75 2 N [1,0,1,0,0] F_Z75 n st (kB R pol_Z75 0 (kS R pol_Z75 6 N [1,1] F_Z75 (kTop E sg_Z75 F_Z75)))
theorem Z75.j1_eq (R:Run) (hw:R.ok) (N a:Nat) (b:(List Int)) (c d e:Int) (f:Bool):Z75.j1 R N a b c d e f = (bif f then some ⟨o_Z75,(false,())⟩ else (Z75.l0 R N a b c d (w64 (e + (1:Int))))) := (hw _ _).trans (by kernel_rfl)
theorem Z75.l0_succ (R:Run) (hw:R.ok) (N n:Nat) (a:(List Int)) (b c d:Int):Z75.l0 R N (n + 1) a b c d = (bif (decide (d < (List.length a:Int))) then ((idx? a d).bind fun y5 => ((callT R n_Z73 o_Z73 [⟨yI,(y5,()).1⟩,⟨yI,b⟩,⟨yI,c⟩]).bind fun r6 => (bif (!r6.1) then (Z75.j1 R N n a b c d true) else (bif (decide (d > (0:Int))) then ((idx? a (w64 (d - (1:Int)))).bind fun y16 => ((idx? a d).bind fun y17 => (Z75.j1 R N n a b c d (decide ((y16,()).1 ≥ (y17,()).1))))) else (Z75.j1 R N n a b c d false))))) else some ⟨o_Z75,(true,())⟩) := (hw _ _).trans (by kernel_rfl)
theorem Z75.ev (R:Run) (N:Nat) (a0:(List Int)) (a1 a2:Int):evFn E R sg_Z75 pol_Z75 F_Z75 N [⟨yL,a0⟩,⟨yI,a1⟩,⟨yI,a2⟩] = (Z75.l0 R N N a0 a1 a2 (0:Int)) := by kernel_rfl
theorem Z84.ev (R:Run) (N:Nat) (a0:(List Int)):evFn E R sg_Z84 pol_Z84 F_Z84 N [⟨yL,a0⟩] = ((callT R n_Z73 o_Z73 [⟨yI,(List.length a0:Int)⟩,⟨yI,(1:Int)⟩,⟨yI,(4:Int)⟩]).bind fun r1 => (bif r1.1 then ((callT R n_Z75 o_Z75 [⟨yL,a0⟩,⟨yI,(0:Int)⟩,⟨yI,(9:Int)⟩]).bind fun r2 => some ⟨o_Z84,(r2.1,())⟩) else some ⟨o_Z84,(false,())⟩)) := by kernel_rfl
noncomputable def Z79.l0 (R:Run) (N n:Nat) (a b:(List Int)) (e:Int):Option Dv := R.w (some ⟨(.c (.d yL a)::(.c (.d yL b)::(zd 3 (.c (.d yI e)::(zd 34 []))))),(zo 42 [])⟩) fun st => lC R pol_Z79 4 N [1,1,0,1,0,0] F_Z79 n st (kB R pol_Z79 0 (kS R pol_Z79 8 N [1,1,1] F_Z79 (kTop E sg_Z79 F_Z79)))
theorem Z79.l0_succ (R:Run) (hw:R.ok) (N n:Nat) (a b:(List Int)) (c:Int):Z79.l0 R N (n + 1) a b c = (bif (decide (c < (List.length a:Int))) then ((idx? a c).bind fun y4 => ((idx? b c).bind fun y5 => (bif ((y4,()).1 != (y5,()).1) then ((idx? a c).bind fun y6 => ((idx? b c).bind fun y7 => some ⟨o_Z79,((decide ((y6,()).1 < (y7,()).1)),())⟩)) else (Z79.l0 R N n a b (w64 (c + (1:Int))))))) else some ⟨o_Z79,(false,())⟩) := (hw _ _).trans (by kernel_rfl)
theorem Z79.ev (R:Run) (N:Nat) (a0 a1:(List Int)):evFn E R sg_Z79 pol_Z79 F_Z79 N [⟨yL,a0⟩,⟨yL,a1⟩] = (bif ((List.length a0:Int) != (List.length a1:Int)) then some ⟨o_Z79,((decide ((List.length a0:Int) < (List.length a1:Int))),())⟩ else (Z79.l0 R N N a0 a1 (0:Int))) := by kernel_rfl
theorem Z74.ev (R:Run) (N:Nat) (a0:(List Int)):evFn E R sg_Z74 pol_Z74 F_Z74 N [⟨yL,a0⟩] = ((chk (decide ((List.length ([]:List Int) + List.length a0) * 8 ≤ 70368744177664))).bind fun _ => some ⟨o_Z74,((([]:List Int) ++ a0),())⟩) := by kernel_rfl
theorem Z80.ev (R:Run) (N:Nat) (a0:(List Int)) (a1:Int):evFn E R sg_Z80 pol_Z80 F_Z80 N [⟨yL,a0⟩,⟨yI,a1⟩] = ((chk (decide (0 ≤ a1) && decide (a1 ≤ (List.length a0:Int)))).bind fun _ => ((callT R n_Z74 o_Z74 [⟨yL,(List.take (Int.toNat a1) a0)⟩]).bind fun r1 => ((chk (decide (0 ≤ (w64 (a1 + (1:Int)))) && decide ((w64 (a1 + (1:Int))) ≤ (List.length a0:Int)))).bind fun _ => ((chk (decide ((List.length r1.1 + List.length (List.drop (Int.toNat (w64 (a1 + (1:Int)))) a0)) * 8 ≤ 70368744177664))).bind fun _ => some ⟨o_Z80,((r1.1 ++ (List.drop (Int.toNat (w64 (a1 + (1:Int)))) a0)),())⟩)))) := by kernel_rfl
noncomputable def Z76.l0 (R:Run) (N n:Nat) (a b:(List Int)) (e:Int):Option Dv := R.w (some ⟨(.c (.d yL a)::(.c (.d yL b)::(zd 3 (.c (.d yI e)::(zd 20 []))))),(zo 28 [])⟩) fun st => lC R pol_Z76 4 N [1,1,0,1,0,0] F_Z76 n st (kB R pol_Z76 0 (kS R pol_Z76 8 N [1,1,1] F_Z76 (kTop E sg_Z76 F_Z76)))
theorem Z76.l0_succ (R:Run) (hw:R.ok) (N n:Nat) (a b:(List Int)) (c:Int):Z76.l0 R N (n + 1) a b c = (bif (decide (c < (List.length a:Int))) then ((idx? a c).bind fun y4 => ((idx? b c).bind fun y5 => (bif ((y4,()).1 != (y5,()).1) then some ⟨o_Z76,(false,())⟩ else (Z76.l0 R N n a b (w64 (c + (1:Int))))))) else some ⟨o_Z76,(true,())⟩) := (hw _ _).trans (by kernel_rfl)
theorem Z76.ev (R:Run) (N:Nat) (a0 a1:(List Int)):evFn E R sg_Z76 pol_Z76 F_Z76 N [⟨yL,a0⟩,⟨yL,a1⟩] = (bif ((List.length a0:Int) != (List.length a1:Int)) then some ⟨o_Z76,(false,())⟩ else (Z76.l0 R N N a0 a1 (0:Int))) := by kernel_rfl
noncomputable def Z82.l0 (R:Run) (N n:Nat) (a:(vK × Unit)) (b:(List Int)) (e:Int):Option Dv := R.w (some ⟨(.c (.ip (.cons yK .nil) a 0)::(.c (.d yL b)::(zd 3 (.c (.d yI e)::(zd 19 []))))),(zo 27 [])⟩) fun st => lC R pol_Z82 2 N [1,0,1,0,0] F_Z82 n st (kB R pol_Z82 0 (kS R pol_Z82 6 N [1,1] F_Z82 (kTop E sg_Z82 F_Z82)))
theorem Z82.l0_succ (R:Run) (hw:R.ok) (N n:Nat) (a:(vK × Unit)) (b:(List Int)) (c:Int):Z82.l0 R N (n + 1) a b c = (bif (decide (c < (List.length a.1:Int))) then ((idx? a.1 c).bind fun y4 => ((callT R n_Z76 o_Z76 [⟨yL,(y4,()).1⟩,⟨yL,b⟩]).bind fun r5 => (bif r5.1 then some ⟨o_Z82,(c,())⟩ else (Z82.l0 R N n a b (w64 (c + (1:Int))))))) else some ⟨o_Z82,((-1:Int),())⟩) := (hw _ _).trans (by kernel_rfl)
theorem Z82.ev (R:Run) (N:Nat) (a0:(vK × Unit)) (a1:(List Int)):evFn E R sg_Z82 pol_Z82 F_Z82 N [⟨(.ptr (.cons yK .nil)),a0⟩,⟨yL,a1⟩] = (Z82.l0 R N N a0 a1 (0:Int)) := by kernel_rfl
noncomputable def Z83.j3 (R:Run) (N a b:Nat) (e:(vK × Unit)) (f:Int) (g:(List Int)) (h:Int) (i:Bool):Option Dv := R.w (some ⟨(.c (.ip (.cons yK .nil) e 0)::(V.dead::(V.dead::(.c (.d yI f)::(.c (.d yL g)::(.c (.d yI h)::(zd 50 (.c (.d .bool i)::(zd 8 []))))))))),(zo 66 [])⟩) fun st => eC R pol_Z83 N [1,1,0,1,0,0,1,0,0,1,1,1,0,0,0,1] F_Z83 st (kS R pol_Z83 12 N [1,1,0,1,0,0,1,0,0,1,1,1,0,0,1] F_Z83 (kL R pol_Z83 10 N [1,1,0,1,0,0,1,0,0,1,1,1,0,0] F_Z83 b (kB R pol_Z83 2 (kB R pol_Z83 1 (q0_0 R N (q0_2 R N a (kB R pol_Z83 0 (q0_1 R N (kTop E sg_Z83 F_Z83)))))))))
noncomputable def Z83.l2 (R:Run) (N a n:Nat) (b:(vK × Unit)) (e:Int) (f:(List Int)) (g:Int):Option Dv := R.w (some ⟨(.c (.ip (.cons yK .nil) b 0)::(V.dead::(V.dead::(.c (.d yI e)::(.c (.d yL f)::(.c (.d yI g)::(zd 59 []))))))),(zo 66 [])⟩) fun st => lC R pol_Z83 10 N [1,1,0,1,0,0,1,0,0,1,1,1,0,0] F_Z83 n st (kB R pol_Z83 2 (kB R pol_Z83 1 (q0_0 R N (q0_2 R N a (kB R pol_Z83 0 (q0_1 R N (kTop E sg_Z83 F_Z83)))))))
noncomputable def Z83.j1 (R:Run) (N a:Nat) (b:(vK × Unit)) (e:Int) (f:(List Int)) (g:Bool):Option Dv := R.w (some ⟨(.c (.ip (.cons yK .nil) b 0)::(V.dead::(V.dead::(.c (.d yI e)::(.c (.d yL f)::(zd 42 (.c (.d .bool g)::(zd 17 [])))))))),(zo 66 [])⟩) fun st => eC R pol_Z83 N [1,1,0,1,0,0,1,0,0,1,0,1] F_Z83 st (kS R pol_Z83 9 N [1,1,0,1,0,0,1,0,0,1,1] F_Z83 (kB R pol_Z83 1 (q0_0 R N (q0_2 R N a (kB R pol_Z83 0 (q0_1 R N (kTop E sg_Z83 F_Z83)))))))
noncomputable def Z83.l0 (R:Run) (N n:Nat) (a:(vK × Unit)) (b:Int):Option Dv := R.w (some ⟨(.c (.ip (.cons yK .nil) a 0)::(V.dead::(V.dead::(.c (.d yI b)::(zd 61 []))))),(zo 66 [])⟩) fun st => lC R pol_Z83 4 N [1,1,0,1,0,0] F_Z83 n st (kB R pol_Z83 0 (q0_1 R N (kTop E sg_Z83 F_Z83)))
theorem Z83.j3_eq (R:Run) (hw:R.ok) (N a b:Nat) (c:(vK × Unit)) (d:Int) (e:(List Int)) (f:Int) (g:Bool):Z83.j3 R N a b c d e f g = (bif g then ((callT R n_Z80 o_Z80 [⟨yL,e⟩,⟨yI,f⟩]).bind fun r18 => ((callT R n_Z82 o_Z82 [⟨(.ptr (.cons yK .nil)),c⟩,⟨yL,r18.1⟩]).bind fun r19 => (bif (decide (r19.1 < (0:Int))) then some ⟨o_Z83,(false,())⟩ else (Z83.l2 R N a b c d e (w64 (f + (1:Int))))))) else (Z83.l0 R N a c (w64 (d + (1:Int))))) := (hw _ _).trans (by kernel_rfl)
theorem Z83.l2_succ (R:Run) (hw:R.ok) (N a n:Nat) (b:(vK × Unit)) (c:Int) (d:(List Int)) (e:Int):Z83.l2 R N a (n + 1) b c d e = (bif (decide (e < (List.length d:Int))) then (Z83.j3 R N a n b c d e (decide ((List.length d:Int) > (1:Int)))) else (Z83.j3 R N a n b c d e false)) := (hw _ _).trans (by kernel_rfl)
theorem Z83.j1_eq (R:Run) (hw:R.ok) (N a:Nat) (b:(vK × Unit)) (c:Int) (d:(List Int)) (e:Bool):Z83.j1 R N a b c d e = (bif e then some ⟨o_Z83,(false,())⟩ else (Z83.l2 R N a N b c d (0:Int))) := (hw _ _).trans (by kernel_rfl)
theorem Z83.l0_succ (R:Run) (hw:R.ok) (N n:Nat) (a:(vK × Unit)) (b:Int):Z83.l0 R N (n + 1) a b = (bif (decide (b < (List.length a.1:Int))) then ((idx? a.1 b).bind fun y3 => ((callT R n_Z84 o_Z84 [⟨yL,(y3,()).1⟩]).bind fun r4 => (bif (!r4.1) then (Z83.j1 R N n a b ((y3,()).1) true) else (bif (decide (b > (0:Int))) then ((idx? a.1 (w64 (b - (1:Int)))).bind fun y31 => ((callT R n_Z79 o_Z79 [⟨yL,(y31,()).1⟩,⟨yL,(y3,()).1⟩]).bind fun r32 => (Z83.j1 R N n a b ((y3,()).1) (!r32.1)))) else (Z83.j1 R N n a b ((y3,()).1) false))))) else some ⟨o_Z83,(true,())⟩) := (hw _ _).trans (by kernel_rfl)
theorem Z83.ev (R:Run) (N:Nat) (a0:(vK × Unit)):evFn E R sg_Z83 pol_Z83 F_Z83 N [⟨(.ptr (.cons yK .nil)),a0⟩] = (bif (decide ((List.length a0.1:Int) > (48:Int))) then some ⟨o_Z83,(false,())⟩ else (Z83.l0 R N N a0 (0:Int))) := by kernel_rfl
noncomputable def Z77.l0 (R:Run) (N n:Nat) (a b:Int):Option Dv := R.w (some ⟨(.c (.d yI a)::(V.dead::(V.dead::(.c (.d yI b)::(zd 14 []))))),(zo 19 [])⟩) fun st => lC R pol_Z77 4 N [1,1,0,1,0,0] F_Z77 n st (kB R pol_Z77 0 (kS R pol_Z77 8 N [1,1,1] F_Z77 (kTop E sg_Z77 F_Z77)))
theorem Z77.l0_succ (R:Run) (hw:R.ok) (N n:Nat) (a b:Int):Z77.l0 R N (n + 1) a b = (bif (decide ((w64 (b * b)) ≤ a)) then ((chk (b != 0)).bind fun _ => (bif ((Int.tmod a b) == (0:Int)) then some ⟨o_Z77,(false,())⟩ else (Z77.l0 R N n a (w64 (b + (1:Int)))))) else some ⟨o_Z77,(true,())⟩) := (hw _ _).trans (by kernel_rfl)
theorem Z77.ev (R:Run) (N:Nat) (a0:Int):evFn E R sg_Z77 pol_Z77 F_Z77 N [⟨yI,a0⟩] = ((callT R n_Z73 o_Z73 [⟨yI,a0⟩,⟨yI,(2:Int)⟩,⟨yI,(251:Int)⟩]).bind fun r1 => (bif (!r1.1) then some ⟨o_Z77,(false,())⟩ else (Z77.l0 R N N a0 (2:Int)))) := by kernel_rfl
theorem Z72.ev (R:Run) (N:Nat) (a0:Int):evFn E R sg_Z72 pol_Z72 F_Z72 N [⟨yI,a0⟩] = ((callT R n_Z77 o_Z77 [⟨yI,a0⟩]).bind fun r1 => some ⟨o_Z72,(r1.1,())⟩) := by kernel_rfl
theorem Z86.ev (R:Run) (N:Nat) (a0:(vK × Unit)) (a1:Int):evFn E R sg_Z86 pol_Z86 F_Z86 N [⟨(.ptr (.cons yK .nil)),a0⟩,⟨yI,a1⟩] = ((callT R n_Z83 o_Z83 [⟨(.ptr (.cons yK .nil)),a0⟩]).bind fun r1 => (bif r1.1 then ((callT R n_Z72 o_Z72 [⟨yI,a1⟩]).bind fun r2 => some ⟨o_Z86,(r2.1,())⟩) else some ⟨o_Z86,(false,())⟩)) := by kernel_rfl
noncomputable def Z85.l0 (R:Run) (N n:Nat) (a:(vK × Unit)) (b e:Int) (f:vK):Option Dv := R.w (some ⟨(.c (.ip (.cons yK .nil) a 0)::(.c (.d yI b)::(V.dead::(V.dead::(.c (.box 4 0)::(.c (.box 5 0)::(.c (.d yI e)::(zd 36 [])))))))),(zo 4 (some (.box [.nils yL] false false)::(some (.box [.arr 7] false false)::(none::(some (.arr yL f true false false)::(zo 38 []))))))⟩) fun st => lC R pol_Z85 3 N [1,1,0,1,0,0] F_Z85 n st (kB R pol_Z85 0 (kS R pol_Z85 7 N [1,1,1] F_Z85 (kTop E sg_Z85 F_Z85)))
theorem Z85.l0_succ (R:Run) (hw:R.ok) (N n:Nat) (a:(vK × Unit)) (b c:Int) (d:vK):Z85.l0 R N (n + 1) a b c d = (bif (decide (c < (List.length a.1:Int))) then ((idx? a.1 c).bind fun y5 => (bif (decide ((List.length (y5,()).1:Int) ≤ (w64 (b + (1:Int))))) then ((idx? a.1 c).bind fun y6 => ((callT R n_Z74 o_Z74 [⟨yL,(y6,()).1⟩]).bind fun r7 => ((chk (decide ((List.length d + List.length [r7.1]) * 24 ≤ 70368744177664))).bind fun _ => (Z85.l0 R N n a b (w64 (c + (1:Int))) (d ++ [r7.1]))))) else (Z85.l0 R N n a b (w64 (c + (1:Int))) d))) else some ⟨o_Z85,(d,())⟩) := (hw _ _).trans (by kernel_rfl)
theorem Z85.ev (R:Run) (N:Nat) (a0:(vK × Unit)) (a1:Int):evFn E R sg_Z85 pol_Z85 F_Z85 N [⟨(.ptr (.cons yK .nil)),a0⟩,⟨yI,a1⟩] = (Z85.l0 R N N a0 a1 (0:Int) ([]:List (List Int))) := by kernel_rfl
noncomputable def Z81.j1 (R:Run) (N a:Nat) (b:(vK × Unit)) (e:(List Int)) (f:Int) (g:Bool) (h:(List Int)):Option Dv := R.w (some ⟨(.c (.ip (.cons yK .nil) b 0)::(zd 4 (.c (.d yL e)::(.c (.arr 15)::(.c (.d yI f)::(zd 16 (.c (.d .bool g)::(zd 11 [])))))))),(zo 15 (some (.arr yI h true false false)::(zo 22 [])))⟩) fun st => eC R pol_Z81 N [1,1,1,0,1,0,0,0,1] F_Z81 st (kS R pol_Z81 6 N [1,1,1,0,1,0,0,1] F_Z81 (kL R pol_Z81 4 N [1,1,1,0,1,0,0] F_Z81 a (kB R pol_Z81 0 (kS R pol_Z81 7 N [1,1,1,1] F_Z81 (kTop E sg_Z81 F_Z81)))))
noncomputable def Z81.l0 (R:Run) (N n:Nat) (a:(vK × Unit)) (b:(List Int)) (e:Int) (f:(List Int)):Option Dv := R.w (some ⟨(.c (.ip (.cons yK .nil) a 0)::(zd 4 (.c (.d yL b)::(.c (.arr 15)::(.c (.d yI e)::(zd 28 [])))))),(zo 15 (some (.arr yI f true false false)::(zo 22 [])))⟩) fun st => lC R pol_Z81 4 N [1,1,1,0,1,0,0] F_Z81 n st (kB R pol_Z81 0 (kS R pol_Z81 7 N [1,1,1,1] F_Z81 (kTop E sg_Z81 F_Z81)))
theorem Z81.j1_eq (R:Run) (hw:R.ok) (N a:Nat) (b:(vK × Unit)) (c:(List Int)) (d:Int) (e:Bool) (f:(List Int)):Z81.j1 R N a b c d e f = (bif e then ((callT R n_Z80 o_Z80 [⟨yL,c⟩,⟨yI,d⟩]).bind fun r11 => ((callT R n_Z82 o_Z82 [⟨(.ptr (.cons yK .nil)),b⟩,⟨yL,r11.1⟩]).bind fun r12 => ((chk (decide ((List.length f + List.length [r12.1]) * 8 ≤ 70368744177664))).bind fun _ => (Z81.l0 R N a b c (w64 (d + (1:Int))) (f ++ [r12.1]))))) else some ⟨o_Z81,(f,())⟩) := (hw _ _).trans (by kernel_rfl)
theorem Z81.l0_succ (R:Run) (hw:R.ok) (N n:Nat) (a:(vK × Unit)) (b:(List Int)) (c:Int) (d:(List Int)):Z81.l0 R N (n + 1) a b c d = (bif (decide (c < (List.length b:Int))) then (Z81.j1 R N n a b c (decide ((List.length b:Int) > (1:Int))) d) else (Z81.j1 R N n a b c false d)) := (hw _ _).trans (by kernel_rfl)
theorem Z81.ev (R:Run) (N:Nat) (a0:(vK × Unit)) (a1:Int):evFn E R sg_Z81 pol_Z81 F_Z81 N [⟨(.ptr (.cons yK .nil)),a0⟩,⟨yI,a1⟩] = ((idx? a0.1 a1).bind fun y1 => (Z81.l0 R N N a0 ((y1,()).1) (0:Int) ([]:List Int))) := by kernel_rfl
theorem Z78.ev (R:Run) (N:Nat) (a0 a1 a2:Int):evFn E R sg_Z78 pol_Z78 F_Z78 N [⟨yI,a0⟩,⟨yI,a1⟩,⟨yI,a2⟩] = ((chk (decide (0 ≤ (w64 (a1 * a2))) && decide ((w64 (a1 * a2)) * 8 ≤ 70368744177664))).bind fun _ => some ⟨o_Z78,(a0,a1,a2,(List.replicate (Int.toNat (w64 (a1 * a2))) (0:Int)),())⟩) := by kernel_rfl
noncomputable def Z87.l1 (R:Run) (N a n:Nat) (b:(vK × Unit)) (e:Int) (f:(List Int)) (g:Int) (h:(List Int)) (i j k:Int) (l:vN) (m:vK) (o:(List Int)):Option Dv := R.w (some ⟨(.c (.ip (.cons yK .nil) b 0)::(.c (.d yI e)::(.c (.d yL f)::(zd 3 (.c (.box 6 0)::(.c (.box 7 0)::(.c (.d yI g)::(.c (.d yL h)::(.c (.d yI i)::(zd 44 [])))))))))),(zo 6 (some (.box [.nils yL,.d yI j,.nils yI,.nils (.st yM)] false false)::(some (.box [.arr 59,.d yI k,.arr 60,.arr 16] false false)::(zo 8 (some (.arr (.st yM) l true false false)::(zo 42 (some (.arr yL m true false false)::(some (.arr yI o true false false)::[]))))))))⟩) fun st => lC R pol_Z87 7 N [1,1,0,1,0,0,1,0,0,1,1,0,0] F_Z87 n st (kB R pol_Z87 2 (kB R pol_Z87 1 (kS R pol_Z87 4 N [1,1,0,1,0,0,1,1] F_Z87 (kL R pol_Z87 3 N [1,1,0,1,0,0] F_Z87 a (kB R pol_Z87 0 (kS R pol_Z87 10 N [1,1,1] F_Z87 (kTop E sg_Z87 F_Z87)))))))
noncomputable def Z87.l0 (R:Run) (N n:Nat) (a:(vK × Unit)) (b:Int) (e:(List Int)) (f g h:Int) (i:vN) (j:vK) (k:(List Int)):Option Dv := R.w (some ⟨(.c (.ip (.cons yK .nil) a 0)::(.c (.d yI b)::(.c (.d yL e)::(zd 3 (.c (.box 6 0)::(.c (.box 7 0)::(.c (.d yI f)::(zd 46 [])))))))),(zo 6 (some (.box [.nils yL,.d yI g,.nils yI,.nils (.st yM)] false false)::(some (.box [.arr 59,.d yI h,.arr 60,.arr 16] false false)::(zo 8 (some (.arr (.st yM) i true false false)::(zo 42 (some (.arr yL j true false false)::(some (.arr yI k true false false)::[]))))))))⟩) fun st => lC R pol_Z87 3 N [1,1,0,1,0,0] F_Z87 n st (kB R pol_Z87 0 (kS R pol_Z87 10 N [1,1,1] F_Z87 (kTop E sg_Z87 F_Z87)))
theorem Z87.l1_succ (R:Run) (hw:R.ok) (N a n:Nat) (b:(vK × Unit)) (c:Int) (d:(List Int)) (e:Int) (f:(List Int)) (g h i:Int) (j:vN) (k:vK) (l:(List Int)):Z87.l1 R N a (n + 1) b c d e f g h i j k l = (bif (decide (g < (List.length f:Int))) then ((idx? d e).bind fun y24 => ((idx? f g).bind fun y25 => ((idx? d (y25,()).1).bind fun y26 => ((callT R n_Z78 o_Z78 [⟨yI,c⟩,⟨yI,(y24,()).1⟩,⟨yI,(y26,()).1⟩]).bind fun r27 => ((chk (decide ((List.length j + List.length [(r27.1,r27.2.1,r27.2.2.1,r27.2.2.2.1,())]) * 48 ≤ 70368744177664))).bind fun _ => (Z87.l1 R N a n b c d e f (w64 (g + (1:Int))) h i (j ++ [(r27.1,r27.2.1,r27.2.2.1,r27.2.2.2.1,())]) k l)))))) else (Z87.l0 R N a b c d (w64 (e + (1:Int))) h i j k l)) := (hw _ _).trans (by kernel_rfl)
theorem Z87.l0_succ (R:Run) (hw:R.ok) (N n:Nat) (a:(vK × Unit)) (b:Int) (c:(List Int)) (d e f:Int) (g:vN) (h:vK) (i:(List Int)):Z87.l0 R N (n + 1) a b c d e f g h i = (bif (decide (d < (List.length a.1:Int))) then ((callT R n_Z81 o_Z81 [⟨(.ptr (.cons yK .nil)),a⟩,⟨yI,d⟩]).bind fun r12 => (Z87.l1 R N n N a b c d r12.1 (0:Int) e f g h i)) else some ⟨o_Z87,(h,f,i,g,())⟩) := (hw _ _).trans (by kernel_rfl)
theorem Z87.ev (R:Run) (N:Nat) (a0:(vK × Unit)) (a1:Int) (a2:(List Int)):evFn E R sg_Z87 pol_Z87 F_Z87 N [⟨(.ptr (.cons yK .nil)),a0⟩,⟨yI,a1⟩,⟨yL,a2⟩] = ((callT R n_Z85 o_Z85 [⟨(.ptr (.cons yK .nil)),a0⟩,⟨yI,(3:Int)⟩]).bind fun r1 => ((callT R n_Z74 o_Z74 [⟨yL,a2⟩]).bind fun r2 => (Z87.l0 R N N a0 a1 a2 (0:Int) (0:Int) a1 ([]:List vM) r1.1 r2.1))) := by kernel_rfl
noncomputable def Z71.j0 (R:Run) (N:Nat) (a b e:Int) (f:Bool) (g:vK) (h:Int):Option Dv := R.w (some ⟨(V.dead::(.c (.d yI a)::(.c (.d yI b)::(.c (.d yI e)::(.c (.box 4 0)::(zd 3 (.c (.box 8 0)::(zd 17 (.c (.d .bool f)::(zd 12 [])))))))))),(zo 4 (some (.box [.d yK g] false false)::(zo 3 (some (.box [.nils yL,.d yI h,.nils yI,.nils (.st yM)] false false)::(zo 37 [])))))⟩) fun st => eC R pol_Z71 N [1,1,0,1] F_Z71 st (kS R pol_Z71 5 N [1,1,1] F_Z71 (kTop E sg_Z71 F_Z71))
theorem Z71.j0_eq (R:Run) (hw:R.ok) (N:Nat) (a b c:Int) (d:Bool) (e:vK) (f:Int):Z71.j0 R N a b c d e f = (bif d then some ⟨o_Z71,(([]:List (List Int)),(0:Int),([]:List Int),([]:List vM),(2:Int),())⟩ else ((chk (decide (0 ≤ (List.length e:Int)) && decide ((List.length e:Int) * 8 ≤ 70368744177664))).bind fun _ => ((chk (decide (0 ≤ b) && decide (b < (List.length (List.replicate (Int.toNat (List.length e:Int)) (0:Int)):Int)))).bind fun _ => ((callT R n_Z87 o_Z87 [⟨(.ptr (.cons yK .nil)),(e,())⟩,⟨yI,a⟩,⟨yL,(List.set (List.replicate (Int.toNat (List.length e:Int)) (0:Int)) (Int.toNat b) c)⟩]).bind fun r9 => some ⟨o_Z71,(r9.1,r9.2.1,r9.2.2.1,r9.2.2.2.1,(0:Int),())⟩)))) := (hw _ _).trans (by kernel_rfl)
theorem Z71.ev (R:Run) (N:Nat) (a0:vK) (a1 a2 a3:Int):evFn E R sg_Z71 pol_Z71 F_Z71 N [⟨yK,a0⟩,⟨yI,a1⟩,⟨yI,a2⟩,⟨yI,a3⟩] = ((callT R n_Z86 o_Z86 [⟨(.ptr (.cons yK .nil)),(a0,())⟩,⟨yI,a1⟩]).bind fun r1 => (bif (!r1.1) then some ⟨o_Z71,(([]:List (List Int)),(0:Int),([]:List Int),([]:List vM),(1:Int),())⟩ else ((callT R n_Z73 o_Z73 [⟨yI,a2⟩,⟨yI,(0:Int)⟩,⟨yI,(w64 ((List.length a0:Int) - (1:Int)))⟩]).bind fun r2 => (bif (!r2.1) then (Z71.j0 R N a1 a2 a3 true a0 (0:Int)) else ((callT R n_Z73 o_Z73 [⟨yI,a3⟩,⟨yI,(0:Int)⟩,⟨yI,(3:Int)⟩]).bind fun r10 => (Z71.j0 R N a1 a2 a3 (!r10.1) a0 (0:Int))))))) := by kernel_rfl
noncomputable def Z23.l0 (R:Run) (N n:Nat) (a:(List Int)) (b:Int):Option Dv := R.w (some ⟨(.c (.d yL a)::(V.dead::(V.dead::(.c (.d yI b)::(zd 16 []))))),(zo 21 [])⟩) fun st => lC R pol_Z23 2 N [1,0,1,0,0] F_Z23 n st (kB R pol_Z23 0 (kS R pol_Z23 6 N [1,1] F_Z23 (kTop E sg_Z23 F_Z23)))
theorem Z23.l0_succ (R:Run) (hw:R.ok) (N n:Nat) (a:(List Int)) (b:Int):Z23.l0 R N (n + 1) a b = (bif (decide (b < (List.length a:Int))) then ((idx? a (w64 (b - (1:Int)))).bind fun y3 => ((idx? a b).bind fun y4 => (bif (decide ((y3,()).1 ≥ (y4,()).1)) then some ⟨o_Z23,(false,())⟩ else (Z23.l0 R N n a (w64 (b + (1:Int))))))) else some ⟨o_Z23,(true,())⟩) := (hw _ _).trans (by kernel_rfl)
theorem Z23.ev (R:Run) (N:Nat) (a0:(List Int)):evFn E R sg_Z23 pol_Z23 F_Z23 N [⟨yL,a0⟩] = (Z23.l0 R N N a0 (1:Int)) := by kernel_rfl
theorem Z28.ev (R:Run) (N:Nat) (a0 a1 a2:Int):evFn E R sg_Z28 pol_Z28 F_Z28 N [⟨yI,a0⟩,⟨yI,a1⟩,⟨yI,a2⟩] = (bif (decide (a0 ≥ a1)) then some ⟨o_Z28,((decide (a0 ≤ a2)),())⟩ else some ⟨o_Z28,(false,())⟩) := by kernel_rfl
theorem Z24.ev (R:Run) (N:Nat) (a0:Int):evFn E R sg_Z24 pol_Z24 F_Z24 N [⟨yI,a0⟩] = ((callT R n_Z28 o_Z28 [⟨yI,a0⟩,⟨yI,(0:Int)⟩,⟨yI,(9:Int)⟩]).bind fun r1 => some ⟨o_Z24,(r1.1,())⟩) := by kernel_rfl
theorem Z11.ev (R:Run) (N:Nat) (a0:Int):evFn E R sg_Z11 pol_Z11 F_Z11 N [⟨yI,a0⟩] = ((callT R n_Z24 o_Z24 [⟨yI,a0⟩]).bind fun r1 => some ⟨o_Z11,((!r1.1),())⟩) := by kernel_rfl
noncomputable def Z69.l0 (R:Run) (N n:Nat) (a:(List Int)) (b e:Int):Option Dv := R.w (some ⟨(.c (.d yL a)::(.c (.d (.fn n_Z11 .nil) ())::(zd 5 (.c (.d yI b)::(.c (.d yI e)::(zd 10 [])))))),(zo 21 [])⟩) fun st => lC R pol_Z68 2 N [1,0,1,0,0] F_Z68 n st (kB R pol_Z68 0 (kS R pol_Z68 7 N [1,1] F_Z68 (kTop E sg_Z68 F_Z68)))
theorem Z69.l0_succ (R:Run) (hw:R.ok) (N n:Nat) (a:(List Int)) (b c:Int):Z69.l0 R N (n + 1) a b c = (bif (decide (c < b)) then ((idx? a c).bind fun y4 => ((callT R n_Z11 o_Z11 [⟨yI,(y4,()).1⟩]).bind fun r5 => (bif r5.1 then some ⟨o_Z68,(c,())⟩ else (Z69.l0 R N n a b (w64 (c + (1:Int))))))) else some ⟨o_Z68,((-1:Int),())⟩) := (hw _ _).trans (by kernel_rfl)
theorem Z69.ev (R:Run) (N:Nat) (a0:(List Int)):evFn E R sg_Z68 pol_Z68 F_Z68 N [⟨yL,a0⟩,⟨(.fn n_Z11 .nil),()⟩] = (Z69.l0 R N N a0 (List.length a0:Int) (0:Int)) := by kernel_rfl
theorem Z63.ev (R:Run) (N:Nat) (a0:(List Int)):evFn E R sg_Z62 pol_Z62 F_Z62 N [⟨yL,a0⟩,⟨(.fn n_Z11 .nil),()⟩] = ((callT R n_Z68 o_Z68 [⟨yL,a0⟩,⟨(.fn n_Z11 .nil),()⟩]).bind fun r1 => some ⟨o_Z62,((decide (r1.1 ≥ (0:Int))),())⟩) := by kernel_rfl
theorem Z10.ev (R:Run) (N:Nat) (a0:(List Int)):evFn E R sg_Z10 pol_Z10 F_Z10 N [⟨yL,a0⟩] = (bif (decide ((List.length a0:Int) ≥ (1:Int))) then (bif (decide ((List.length a0:Int) ≤ (4:Int))) then ((callT R n_Z23 o_Z23 [⟨yL,a0⟩]).bind fun r1 => (bif r1.1 then ((callT R n_Z62 o_Z62 [⟨yL,a0⟩,⟨(.fn n_Z11 .nil),()⟩]).bind fun r2 => some ⟨o_Z10,((!r2.1),())⟩) else some ⟨o_Z10,(false,())⟩)) else some ⟨o_Z10,(false,())⟩) else some ⟨o_Z10,(false,())⟩) := by kernel_rfl
theorem Z3.ev (R:Run) (N:Nat) (a0:Int):evFn E R sg_Z3 pol_Z3 F_Z3 N [⟨yI,a0⟩] = some ⟨o_Z3,((a0 != a0),())⟩ := by kernel_rfl
theorem Z0.ev (R:Run) (N:Nat) (a0 a1:Int):evFn E R sg_Z0 pol_Z0 F_Z0 N [⟨yI,a0⟩,⟨yI,a1⟩] = ((callT R n_Z3 o_Z3 [⟨yI,a0⟩]).bind fun r1 => ((callT R n_Z3 o_Z3 [⟨yI,a1⟩]).bind fun r2 => (bif r1.1 then (bif r2.1 then some ⟨o_Z0,((0:Int),())⟩ else some ⟨o_Z0,((-1:Int),())⟩) else (bif r2.1 then some ⟨o_Z0,((1:Int),())⟩ else (bif (decide (a0 < a1)) then some ⟨o_Z0,((-1:Int),())⟩ else (bif (decide (a0 > a1)) then some ⟨o_Z0,((1:Int),())⟩ else some ⟨o_Z0,((0:Int),())⟩)))))) := by kernel_rfl
theorem Z4.ev (R:Run) (N:Nat) (a0:Int):evFn E R sg_Z4 pol_Z4 F_Z4 N [⟨yI,a0⟩] = some ⟨o_Z4,((a0 != a0),())⟩ := by kernel_rfl
theorem Z1.ev (R:Run) (N:Nat) (a0 a1:Int):evFn E R sg_Z1 pol_Z1 F_Z1 N [⟨yI,a0⟩,⟨yI,a1⟩] = ((callT R n_Z4 o_Z4 [⟨yI,a0⟩]).bind fun r1 => ((callT R n_Z4 o_Z4 [⟨yI,a1⟩]).bind fun r2 => (bif r1.1 then (bif r2.1 then some ⟨o_Z1,((0:Int),())⟩ else some ⟨o_Z1,((-1:Int),())⟩) else (bif r2.1 then some ⟨o_Z1,((1:Int),())⟩ else (bif (decide (a0 < a1)) then some ⟨o_Z1,((-1:Int),())⟩ else (bif (decide (a0 > a1)) then some ⟨o_Z1,((1:Int),())⟩ else some ⟨o_Z1,((0:Int),())⟩)))))) := by kernel_rfl
noncomputable def Z58.l0 (R:Run) (N n:Nat) (a b e:(List Int)) (f g:Int):Option Dv := R.w (some ⟨(.c (.d yL a)::(.c (.d yL b)::(zd 7 (.c (.d yL e)::(.c (.d yI f)::(.c (.d yI g)::(zd 24 []))))))),(zo 38 [])⟩) fun st => lC R pol_Z58 2 N [1,0,1,0,0] F_Z58 n st (kB R pol_Z58 0 (kS R pol_Z58 11 N [1,1] F_Z58 (kTop E sg_Z58 F_Z58)))
theorem Z58.l0_succ (R:Run) (hw:R.ok) (N n:Nat) (a b c:(List Int)) (d e:Int):Z58.l0 R N (n + 1) a b c d e = (bif (decide (e < d)) then ((idx? c e).bind fun y6 => (bif (decide (e ≥ (List.length b:Int))) then some ⟨o_Z58,((1:Int),())⟩ else ((idx? b e).bind fun y7 => ((callT R n_Z1 o_Z1 [⟨yI,(y6,()).1⟩,⟨yI,(y7,()).1⟩]).bind fun r8 => (bif (r8.1 != (0:Int)) then some ⟨o_Z58,(r8.1,())⟩ else (Z58.l0 R N n a b c d (w64 (e + (1:Int))))))))) else (bif (decide ((List.length a:Int) < (List.length b:Int))) then some ⟨o_Z58,((-1:Int),())⟩ else some ⟨o_Z58,((0:Int),())⟩)) := (hw _ _).trans (by kernel_rfl)
theorem Z58.ev (R:Run) (N:Nat) (a0 a1:(List Int)):evFn E R sg_Z58 pol_Z58 F_Z58 N [⟨yL,a0⟩,⟨yL,a1⟩] = (Z58.l0 R N N a0 a1 a0 (List.length a0:Int) (0:Int)) := by kernel_rfl
noncomputable def Z2.l0 (R:Run) (N n:Nat) (a:Int) (b:(List Int)) (e f:Int):Option Dv := R.w (some ⟨(zd 3 (.c (.d yI a)::(V.dead::(V.dead::(.c (.d yL b)::(.c (.d yI e)::(.c (.d yI f)::(zd 9 [])))))))),(zo 19 [])⟩) fun st => lC R pol_Z2 3 N [1,1,0,1,0,0] F_Z2 n st (kB R pol_Z2 0 (kS R pol_Z2 8 N [1,1,1] F_Z2 (kTop E sg_Z2 F_Z2)))
theorem Z2.l0_succ (R:Run) (hw:R.ok) (N n:Nat) (a:Int) (b:(List Int)) (c d:Int):Z2.l0 R N (n + 1) a b c d = (bif (decide (d < c)) then ((idx? b d).bind fun y5 => (bif ((y5,()).1 != a) then some ⟨o_Z2,((y5,()).1,())⟩ else (Z2.l0 R N n a b c (w64 (d + (1:Int)))))) else some ⟨o_Z2,(a,())⟩) := (hw _ _).trans (by kernel_rfl)
theorem Z2.ev (R:Run) (N:Nat) (a0:(List Int)):evFn E R sg_Z2 pol_Z2 F_Z2 N [⟨yL,a0⟩] = (Z2.l0 R N N (0:Int) a0 (List.length a0:Int) (0:Int)) := by kernel_rfl
theorem Z13.ev (R:Run) (N:Nat) (a0 a1:(List Int)):evFn E R sg_Z13 pol_Z13 F_Z13 N [⟨yL,a0⟩,⟨yL,a1⟩] = ((callT R n_Z0 o_Z0 [⟨yI,(List.length a0:Int)⟩,⟨yI,(List.length a1:Int)⟩]).bind fun r1 => ((callT R n_Z58 o_Z58 [⟨yL,a0⟩,⟨yL,a1⟩]).bind fun r2 => ((callT R n_Z2 o_Z2 [⟨yL,[r1.1,r2.1]⟩]).bind fun r3 => some ⟨o_Z13,(r3.1,())⟩))) := by kernel_rfl
noncomputable def Z59.l1 (R:Run) (N n:Nat) (a:vK) (b e:Int) (f:(List Int)):Option Dv := R.w (some ⟨(zd 6 (.c (.arr 37)::(zd 18 (.c (.d yK a)::(.c (.d yI b)::(.c (.d yI e)::(zd 8 []))))))),(zo 37 (some (.arr yI f true false false)::[]))⟩) fun st => lC R pol_Z59 11 N [1,1,1,1,0,1,0,0] F_Z59 n st (kB R pol_Z59 2 (kS R pol_Z59 15 N [1,1,1,1,1] F_Z59 (kTop E sg_Z59 F_Z59)))
noncomputable def Z59.l0 (R:Run) (N n:Nat) (a:vK) (b:Int) (e:vK) (f g:Int):Option Dv := R.w (some ⟨(.c (.d yK a)::(V.dead::(V.dead::(.c (.d yI b)::(zd 5 (.c (.d yK e)::(.c (.d yI f)::(.c (.d yI g)::(zd 24 []))))))))),(zo 38 [])⟩) fun st => lC R pol_Z59 3 N [1,1,0,1,0,0] F_Z59 n st (kB R pol_Z59 0 (kS R pol_Z59 9 N [1,1,1] F_Z59 (kTop E sg_Z59 F_Z59)))
theorem Z59.l1_succ (R:Run) (hw:R.ok) (N n:Nat) (a:vK) (b c:Int) (d:(List Int)):Z59.l1 R N (n + 1) a b c d = (bif (decide (c < b)) then ((idx? a c).bind fun y17 => ((chk (decide ((List.length d + List.length (y17,()).1) * 8 ≤ 70368744177664))).bind fun _ => (Z59.l1 R N n a b (w64 (c + (1:Int))) (d ++ (y17,()).1)))) else some ⟨o_Z59,(d,())⟩) := (hw _ _).trans (by kernel_rfl)
theorem Z59.l0_succ (R:Run) (hw:R.ok) (N n:Nat) (a:vK) (b:Int) (c:vK) (d e:Int):Z59.l0 R N (n + 1) a b c d e = (bif (decide (e < d)) then ((idx? c e).bind fun y6 => (bif (decide ((w64 (b + (List.length (y6,()).1:Int))) < (0:Int))) then none else (Z59.l0 R N n a (w64 (b + (List.length (y6,()).1:Int))) c d (w64 (e + (1:Int)))))) else ((callT R n_Z65 o_Z65 [⟨yL,([]:List Int)⟩,⟨yI,b⟩]).bind fun r12 => (Z59.l1 R N N a (List.length a:Int) (0:Int) r12.1))) := (hw _ _).trans (by kernel_rfl)
theorem Z59.ev (R:Run) (N:Nat) (a0:vK):evFn E R sg_Z59 pol_Z59 F_Z59 N [⟨yK,a0⟩] = (Z59.l0 R N N a0 (0:Int) a0 (List.length a0:Int) (0:Int)) := by kernel_rfl
noncomputable def Z18.l0 (R:Run) (N n:Nat) (a:(List Int)) (b e:Int) (f:vK):Option Dv := R.w (some ⟨(.c (.d yL a)::(V.dead::(V.dead::(.c (.arr 24)::(V.dead::(V.dead::(.c (.d yI b)::(.c (.d yI e)::(zd 19 []))))))))),(zo 24 (some (.arr yL f true false false)::(zo 4 [])))⟩) fun st => lC R pol_Z18 3 N [1,1,0,1,0,0] F_Z18 n st (kB R pol_Z18 0 (kS R pol_Z18 8 N [1,1,1] F_Z18 (kTop E sg_Z18 F_Z18)))
theorem Z18.l0_succ (R:Run) (hw:R.ok) (N n:Nat) (a:(List Int)) (b c:Int) (d:vK):Z18.l0 R N (n + 1) a b c d = (bif (decide (c < b)) then (bif (decide ((List.length a:Int) > (1:Int))) then ((chk (decide (0 ≤ c) && decide (c ≤ (List.length a:Int)))).bind fun _ => ((chk (decide (0 ≤ (w64 (c + (1:Int)))) && decide ((w64 (c + (1:Int))) ≤ (List.length a:Int)))).bind fun _ => ((callT R n_Z59 o_Z59 [⟨yK,[(List.take (Int.toNat c) a),(List.drop (Int.toNat (w64 (c + (1:Int)))) a)]⟩]).bind fun r5 => ((chk (decide ((List.length d + List.length [r5.1]) * 24 ≤ 70368744177664))).bind fun _ => (Z18.l0 R N n a b (w64 (c + (1:Int))) (d ++ [r5.1])))))) else (Z18.l0 R N n a b (w64 (c + (1:Int))) d)) else some ⟨o_Z18,(d,())⟩) := (hw _ _).trans (by kernel_rfl)
theorem Z18.ev (R:Run) (N:Nat) (a0:(List Int)):evFn E R sg_Z18 pol_Z18 F_Z18 N [⟨yL,a0⟩] = (Z18.l0 R N N a0 (List.length a0:Int) (0:Int) ([]:List (List Int))) := by kernel_rfl
noncomputable def Z55.l0 (R:Run) (N n:Nat) (a:vK) (b:(List Int)) (e f g:Int):Option Dv := R.w (some ⟨(.c (.d yK a)::(.c (.d yL b)::(.c (.d (.fn n_Z13 .nil) ())::(zd 5 (.c (.d yI e)::(.c (.d yI f)::(.c (.d yI g)::(zd 38 [])))))))),(zo 52 [])⟩) fun st => lC R pol_Z54 3 N [1,1,1,0,0,0] F_Z54 n st (kB R pol_Z54 0 (kS R pol_Z54 8 N [1,1,1,1] F_Z54 (kTop E sg_Z54 F_Z54)))
theorem Z55.l0_succ (R:Run) (hw:R.ok) (N n:Nat) (a:vK) (b:(List Int)) (c d e:Int):Z55.l0 R N (n + 1) a b c d e = (bif (decide (d < e)) then ((chk (decide (0 ≤ (1:Int)))).bind fun _ => ((idx? a (w64 ((Int.fdiv (IntKind.wrap .u64 ((w64 (d + e)))) (2 ^ (min (Int.toNat (1:Int)) (IntKind.bits .u64))))))).bind fun y6 => ((callT R n_Z13 o_Z13 [⟨yL,(y6,()).1⟩,⟨yL,b⟩]).bind fun r7 => (bif (decide (r7.1 < (0:Int))) then (Z55.l0 R N n a b c (w64 ((w64 ((Int.fdiv (IntKind.wrap .u64 ((w64 (d + e)))) (2 ^ (min (Int.toNat (1:Int)) (IntKind.bits .u64)))))) + (1:Int))) e) else (Z55.l0 R N n a b c d (w64 ((Int.fdiv (IntKind.wrap .u64 ((w64 (d + e)))) (2 ^ (min (Int.toNat (1:Int)) (IntKind.bits .u64))))))))))) else (bif (decide (d < c)) then ((idx? a d).bind fun y18 => ((callT R n_Z13 o_Z13 [⟨yL,(y18,()).1⟩,⟨yL,b⟩]).bind fun r19 => some ⟨o_Z54,(d,(r19.1 == (0:Int)),())⟩)) else some ⟨o_Z54,(d,false,())⟩)) := (hw _ _).trans (by kernel_rfl)
theorem Z55.ev (R:Run) (N:Nat) (a0:vK) (a1:(List Int)):evFn E R sg_Z54 pol_Z54 F_Z54 N [⟨yK,a0⟩,⟨yL,a1⟩,⟨(.fn n_Z13 .nil),()⟩] = (Z55.l0 R N N a0 a1 (List.length a0:Int) (0:Int) (List.length a0:Int)) := by kernel_rfl
theorem Z22.ev (R:Run) (N:Nat) (a0:vK) (a1:(List Int)):evFn E R sg_Z22 pol_Z22 F_Z22 N [⟨yK,a0⟩,⟨yL,a1⟩] = ((callT R n_Z54 o_Z54 [⟨yK,a0⟩,⟨yL,a1⟩,⟨(.fn n_Z13 .nil),()⟩]).bind fun r1 => (bif (!r1.2.1) then some ⟨o_Z22,((-1:Int),())⟩ else some ⟨o_Z22,(r1.1,())⟩)) := by kernel_rfl
theorem Z8.ev (R:Run) (N:Nat) (a0:(List Int)) (a1:(vK × Unit)) (a2:(Int × Unit)):evFn E R sg_Z8 pol_Z8 F_Z8 N [⟨yL,a0⟩,⟨(.ptr (.cons yK .nil)),a1⟩,⟨(.ptr (.cons yI .nil)),a2⟩] = ((chk (decide (0 ≤ a2.1) && decide (a2.1 ≤ (List.length a1.1:Int)))).bind fun _ => ((callT R n_Z22 o_Z22 [⟨yK,(List.take (Int.toNat a2.1) a1.1)⟩,⟨yL,a0⟩]).bind fun r1 => some ⟨o_Z8,((decide (r1.1 < (0:Int))),())⟩)) := by kernel_rfl
noncomputable def Z67.l0 (R:Run) (N n:Nat) (a:vK) (b:((vK × Unit) × (Int × Unit) × Unit)) (e f:Int):Option Dv := R.w (some ⟨(.c (.d yK a)::(.c (.d (.fn n_Z8 (.cons (.ptr (.cons yK .nil)) (.cons (.ptr (.cons yI .nil)) .nil))) b)::(zd 5 (.c (.d yI e)::(.c (.d yI f)::(zd 10 [])))))),(zo 21 [])⟩) fun st => lC R pol_Z66 2 N [1,0,1,0,0] F_Z66 n st (kB R pol_Z66 0 (kS R pol_Z66 7 N [1,1] F_Z66 (kTop E sg_Z66 F_Z66)))
theorem Z67.l0_succ (R:Run) (hw:R.ok) (N n:Nat) (a:vK) (b:((vK × Unit) × (Int × Unit) × Unit)) (c d:Int):Z67.l0 R N (n + 1) a b c d = (bif (decide (d < c)) then ((idx? a d).bind fun y5 => ((callT R n_Z8 o_Z8 [⟨yL,(y5,()).1⟩,⟨(.ptr (.cons yK .nil)),b.1⟩,⟨(.ptr (.cons yI .nil)),b.2.1⟩]).bind fun r6 => (bif r6.1 then some ⟨o_Z66,(d,())⟩ else (Z67.l0 R N n a b c (w64 (d + (1:Int))))))) else some ⟨o_Z66,((-1:Int),())⟩) := (hw _ _).trans (by kernel_rfl)
theorem Z67.ev (R:Run) (N:Nat) (a0:vK) (a1:((vK × Unit) × (Int × Unit) × Unit)):evFn E R sg_Z66 pol_Z66 F_Z66 N [⟨yK,a0⟩,⟨(.fn n_Z8 (.cons (.ptr (.cons yK .nil)) (.cons (.ptr (.cons yI .nil)) .nil))),a1⟩] = (Z67.l0 R N N a0 a1 (List.length a0:Int) (0:Int)) := by kernel_rfl
theorem Z61.ev (R:Run) (N:Nat) (a0:vK) (a1:((vK × Unit) × (Int × Unit) × Unit)):evFn E R sg_Z60 pol_Z60 F_Z60 N [⟨yK,a0⟩,⟨(.fn n_Z8 (.cons (.ptr (.cons yK .nil)) (.cons (.ptr (.cons yI .nil)) .nil))),a1⟩] = ((callT R n_Z66 o_Z66 [⟨yK,a0⟩,⟨(.fn n_Z8 (.cons (.ptr (.cons yK .nil)) (.cons (.ptr (.cons yI .nil)) .nil))),a1⟩]).bind fun r1 => some ⟨o_Z60,((decide (r1.1 ≥ (0:Int))),())⟩) := by kernel_rfl
noncomputable def Z7.j1 (R:Run) (N a:Nat) (b:(List Int)) (e:vK) (f g:Int) (h:Bool) (i:vK) (j:Int):Option Dv := R.w (some ⟨(V.dead::(.c (.box 1 0)::(V.dead::(.c (.box 3 0)::(.c (.d yL b)::(V.dead::(.c (.d yK e)::(.c (.d yI f)::(.c (.d yI g)::(zd 21 (.c (.d .bool h)::(zd 9 [])))))))))))),(none::(some (.box [.d yK i] true false)::(none::(some (.box [.d yI j] false false)::(zo 37 [])))))⟩) fun st => eC R pol_Z7 N [1,0,1,0,0,1,1,0,0,1,0,1] F_Z7 st (kS R pol_Z7 6 N [1,0,1,0,0,1,1,0,0,1,1] F_Z7 (kB R pol_Z7 1 (kS R pol_Z7 8 N [1,0,1,0,0,1,1,1] F_Z7 (kL R pol_Z7 2 N [1,0,1,0,0] F_Z7 a (kB R pol_Z7 0 (kS R pol_Z7 9 N [1,1] F_Z7 (kTop E sg_Z7 F_Z7)))))))
noncomputable def Z7.l0 (R:Run) (N n:Nat) (a:vK) (b e:Int) (f:vK):Option Dv := R.w (some ⟨(V.dead::(.c (.box 1 0)::(zd 4 (.c (.d yK a)::(.c (.d yI b)::(.c (.d yI e)::(zd 31 []))))))),(none::(some (.box [.d yK f] true false)::(zo 39 [])))⟩) fun st => lC R pol_Z7 2 N [1,0,1,0,0] F_Z7 n st (kB R pol_Z7 0 (kS R pol_Z7 9 N [1,1] F_Z7 (kTop E sg_Z7 F_Z7)))
theorem Z7.j1_eq (R:Run) (hw:R.ok) (N a:Nat) (b:(List Int)) (c:vK) (d e:Int) (f:Bool) (g:vK) (h:Int):Z7.j1 R N a b c d e f g h = (bif f then some ⟨o_Z7,(false,())⟩ else ((callT R n_Z18 o_Z18 [⟨yL,b⟩]).bind fun r14 => ((callT R n_Z60 o_Z60 [⟨yK,r14.1⟩,⟨(.fn n_Z8 (.cons (.ptr (.cons yK .nil)) (.cons (.ptr (.cons yI .nil)) .nil))),((g,()),(h,()),())⟩]).bind fun r15 => (bif r15.1 then some ⟨o_Z7,(false,())⟩ else (Z7.l0 R N a c d (w64 (e + (1:Int))) g))))) := (hw _ _).trans (by kernel_rfl)
theorem Z7.l0_succ (R:Run) (hw:R.ok) (N n:Nat) (a:vK) (b c:Int) (d:vK):Z7.l0 R N (n + 1) a b c d = (bif (decide (c < b)) then ((idx? a c).bind fun y5 => ((callT R n_Z10 o_Z10 [⟨yL,(y5,()).1⟩]).bind fun r6 => (bif (!r6.1) then (Z7.j1 R N n ((y5,()).1) a b c true d c) else (bif (decide (c > (0:Int))) then ((idx? d (w64 (c - (1:Int)))).bind fun y20 => ((callT R n_Z13 o_Z13 [⟨yL,(y20,()).1⟩,⟨yL,(y5,()).1⟩]).bind fun r21 => (Z7.j1 R N n ((y5,()).1) a b c (decide (r21.1 ≥ (0:Int))) d c))) else (Z7.j1 R N n ((y5,()).1) a b c false d c))))) else some ⟨o_Z7,((decide ((List.length d:Int) ≤ (48:Int))),())⟩) := (hw _ _).trans (by kernel_rfl)
theorem Z7.ev (R:Run) (N:Nat) (a0:vK):evFn E R sg_Z7 pol_Z7 F_Z7 N [⟨yK,a0⟩] = (Z7.l0 R N N a0 (List.length a0:Int) (0:Int) a0) := by kernel_rfl
noncomputable def Z9.l0 (R:Run) (N n:Nat) (a b:Int):Option Dv := R.w (some ⟨(.c (.d yI a)::(V.dead::(V.dead::(.c (.d yI b)::(zd 14 []))))),(zo 19 [])⟩) fun st => lC R pol_Z9 4 N [1,1,0,1,0,0] F_Z9 n st (kB R pol_Z9 0 (kS R pol_Z9 8 N [1,1,1] F_Z9 (kTop E sg_Z9 F_Z9)))
theorem Z9.l0_succ (R:Run) (hw:R.ok) (N n:Nat) (a b:Int):Z9.l0 R N (n + 1) a b = (bif (decide ((w64 (b * b)) ≤ a)) then ((chk (b != 0)).bind fun _ => (bif ((Int.tmod a b) == (0:Int)) then some ⟨o_Z9,(false,())⟩ else (Z9.l0 R N n a (w64 (b + (1:Int)))))) else some ⟨o_Z9,(true,())⟩) := (hw _ _).trans (by kernel_rfl)
theorem Z9.ev (R:Run) (N:Nat) (a0:Int):evFn E R sg_Z9 pol_Z9 F_Z9 N [⟨yI,a0⟩] = ((callT R n_Z28 o_Z28 [⟨yI,a0⟩,⟨yI,(2:Int)⟩,⟨yI,(251:Int)⟩]).bind fun r1 => (bif (!r1.1) then some ⟨o_Z9,(false,())⟩ else (Z9.l0 R N N a0 (2:Int)))) := by kernel_rfl
theorem Z27.ev (R:Run) (N:Nat) (a0:vK):evFn E R sg_Z27 pol_Z27 F_Z27 N [⟨yK,a0⟩] = some ⟨o_Z27,((List.length a0:Int),())⟩ := by kernel_rfl
noncomputable def Z16.l0 (R:Run) (N n:Nat) (a b e:Int) (f:(List Int)):Option Dv := R.w (some ⟨(V.dead::(.c (.d yI a)::(zd 3 (.c (.arr 14)::(V.dead::(V.dead::(.c (.d yI b)::(.c (.d yI e)::(zd 7 []))))))))),(zo 14 (some (.arr yI f true false false)::(zo 4 [])))⟩) fun st => lC R pol_Z16 3 N [1,1,0,1,0,0] F_Z16 n st (kB R pol_Z16 0 (kS R pol_Z16 6 N [1,1,1] F_Z16 (kTop E sg_Z16 F_Z16)))
theorem Z16.l0_succ (R:Run) (hw:R.ok) (N n:Nat) (a b c:Int) (d:(List Int)):Z16.l0 R N (n + 1) a b c d = (bif (decide (c < b)) then ((chk (decide ((List.length d + List.length [a]) * 8 ≤ 70368744177664))).bind fun _ => (Z16.l0 R N n a b (w64 (c + (1:Int))) (d ++ [a]))) else some ⟨o_Z16,(d,())⟩) := (hw _ _).trans (by kernel_rfl)
theorem Z16.ev (R:Run) (N:Nat) (a0:vK) (a1:Int):evFn E R sg_Z16 pol_Z16 F_Z16 N [⟨yK,a0⟩,⟨yI,a1⟩] = (Z16.l0 R N N a1 (List.length a0:Int) (0:Int) ([]:List Int)) := by kernel_rfl
noncomputable def Z56.j0 (R:Run) (N:Nat) (a:(List Int)) (b:Bool):Option Dv := R.w (some ⟨(.c (.d yL a)::(zd 3 (.c (.d .bool b)::(zd 3 [])))),(zo 9 [])⟩) fun st => eC R pol_Z56 N [1,0,1] F_Z56 st (kS R pol_Z56 3 N [1,1] F_Z56 (kTop E sg_Z56 F_Z56))
theorem Z56.j0_eq (R:Run) (hw:R.ok) (N:Nat) (a:(List Int)) (b:Bool):Z56.j0 R N a b = (bif b then some ⟨o_Z56,(([]:List Int),())⟩ else ((chk (decide ((List.length ([]:List Int) + List.length a) * 8 ≤ 70368744177664))).bind fun _ => some ⟨o_Z56,((([]:List Int) ++ a),())⟩)) := (hw _ _).trans (by kernel_rfl)
theorem Z56.ev (R:Run) (N:Nat) (a0:(List Int)):evFn E R sg_Z56 pol_Z56 F_Z56 N [⟨yL,a0⟩] = (bif (List.isEmpty a0) then (both (Z56.j0 R N a0 true) (Z56.j0 R N a0 false)) else (Z56.j0 R N a0 false)) := by kernel_rfl
noncomputable def Z14.l0 (R:Run) (N n:Nat) (a:vK) (b e:Int) (f:vK):Option Dv := R.w (some ⟨(zd 3 (.c (.arr 16)::(V.dead::(V.dead::(.c (.d yK a)::(.c (.d yI b)::(.c (.d yI e)::(zd 10 [])))))))),(zo 16 (some (.arr yL f true false false)::(zo 4 [])))⟩) fun st => lC R pol_Z14 3 N [1,1,0,1,0,0] F_Z14 n st (kB R pol_Z14 0 (kS R pol_Z14 7 N [1,1,1] F_Z14 (kTop E sg_Z14 F_Z14)))
theorem Z14.l0_succ (R:Run) (hw:R.ok) (N n:Nat) (a:vK) (b c:Int) (d:vK):Z14.l0 R N (n + 1) a b c d = (bif (decide (c < b)) then ((idx? a c).bind fun y5 => ((callT R n_Z56 o_Z56 [⟨yL,(y5,()).1⟩]).bind fun r6 => ((chk (decide ((List.length d + List.length [r6.1]) * 24 ≤ 70368744177664))).bind fun _ => (Z14.l0 R N n a b (w64 (c + (1:Int))) (d ++ [r6.1]))))) else some ⟨o_Z14,(d,())⟩) := (hw _ _).trans (by kernel_rfl)
theorem Z14.ev (R:Run) (N:Nat) (a0:vK):evFn E R sg_Z14 pol_Z14 F_Z14 N [⟨yK,a0⟩] = (Z14.l0 R N N a0 (List.length a0:Int) (0:Int) ([]:List (List Int))) := by kernel_rfl
noncomputable def Z64.l0 (R:Run) (N n:Nat) (a b:(List Int)) (e f:Int):Option Dv := R.w (some ⟨(.c (.d yL a)::(.c (.d yL b)::(zd 10 (.c (.d yI e)::(.c (.d yI f)::(zd 12 [])))))),(zo 28 [])⟩) fun st => lC R pol_Z64 4 N [1,1,0,1,0,0] F_Z64 n st (kB R pol_Z64 0 (kS R pol_Z64 9 N [1,1,1] F_Z64 (kTop E sg_Z64 F_Z64)))
theorem Z64.l0_succ (R:Run) (hw:R.ok) (N n:Nat) (a b:(List Int)) (c d:Int):Z64.l0 R N (n + 1) a b c d = (bif (decide (d < c)) then ((idx? a d).bind fun y5 => ((idx? b d).bind fun y6 => (bif ((y5,()).1 != (y6,()).1) then some ⟨o_Z64,(false,())⟩ else (Z64.l0 R N n a b c (w64 (d + (1:Int))))))) else some ⟨o_Z64,(true,())⟩) := (hw _ _).trans (by kernel_rfl)
theorem Z64.ev (R:Run) (N:Nat) (a0 a1:(List Int)):evFn E R sg_Z64 pol_Z64 F_Z64 N [⟨yL,a0⟩,⟨yL,a1⟩] = (bif ((List.length a0:Int) != (List.length a1:Int)) then some ⟨o_Z64,(false,())⟩ else (Z64.l0 R N N a0 a1 (List.length a0:Int) (0:Int))) := by kernel_rfl
theorem Z21.ev (R:Run) (N:Nat) (a0:vK):evFn E R sg_Z21 pol_Z21 F_Z21 N [⟨yK,a0⟩] = ((callT R n_Z14 o_Z14 [⟨yK,a0⟩]).bind fun r1 => ((callT R n_Z70 o_Z70 [⟨yK,r1.1⟩,⟨(.fn n_Z13 .nil),()⟩]).bind fun r2 => ((callT R n_Z57 o_Z57 [⟨yK,r2.1⟩,⟨(.fn n_Z64 .nil),()⟩]).bind fun r3 => some ⟨o_Z21,(r3.1,())⟩))) := by kernel_rfl
noncomputable def Z17.l0 (R:Run) (N n:Nat) (a:vK) (b e:Int) (f:vK) (g:(List Int)):Option Dv := R.w (some ⟨(V.dead::(V.dead::(.c (.box 2 0)::(V.dead::(V.dead::(.c (.arr 24)::(zd 7 (.c (.d yK a)::(.c (.d yI b)::(.c (.d yI e)::(zd 11 []))))))))))),(none::(none::(some (.box [.d yK f] false false)::(zo 21 (some (.arr yI g true false false)::(zo 4 []))))))⟩) fun st => lC R pol_Z17 3 N [1,1,0,1,0,0] F_Z17 n st (kB R pol_Z17 0 (kS R pol_Z17 7 N [1,1,1] F_Z17 (kTop E sg_Z17 F_Z17)))
theorem Z17.l0_succ (R:Run) (hw:R.ok) (N n:Nat) (a:vK) (b c:Int) (d:vK) (e:(List Int)):Z17.l0 R N (n + 1) a b c d e = (bif (decide (c < b)) then ((idx? a c).bind fun y8 => ((callT R n_Z22 o_Z22 [⟨yK,d⟩,⟨yL,(y8,()).1⟩]).bind fun r9 => ((chk (decide ((List.length e + List.length [r9.1]) * 8 ≤ 70368744177664))).bind fun _ => (Z17.l0 R N n a b (w64 (c + (1:Int))) d (e ++ [r9.1]))))) else some ⟨o_Z17,(e,())⟩) := (hw _ _).trans (by kernel_rfl)
theorem Z17.ev (R:Run) (N:Nat) (a0:vK) (a1:Int):evFn E R sg_Z17 pol_Z17 F_Z17 N [⟨yK,a0⟩,⟨yI,a1⟩] = ((idx? a0 a1).bind fun y1 => ((callT R n_Z18 o_Z18 [⟨yL,(y1,()).1⟩]).bind fun r2 => (Z17.l0 R N N r2.1 (List.length r2.1:Int) (0:Int) a0 ([]:List Int)))) := by kernel_rfl
noncomputable def Z12.l1 (R:Run) (N a n:Nat) (b e f:Int) (g:(List Int)) (h i:Int) (j:vK) (k:(List (Int × Int × Int × Unit))):Option Dv := R.w (some ⟨(V.dead::(.c (.box 1 0)::(V.dead::(.c (.arr 28)::(.c (.d yI b)::(zd 4 (.c (.d yI e)::(.c (.d yI f)::(zd 4 (.c (.d yL g)::(.c (.d yI h)::(.c (.d yI i)::(zd 14 []))))))))))))),(none::(some (.box [.d yK j] false false)::(zo 26 (some (.arr (.st (.cons yI (.cons yI (.cons yI .nil)))) k true false false)::(zo 4 [])))))⟩) fun st => lC R pol_Z12 6 N [1,1,0,1,0,0,1,1,0,0,1,1,0,0] F_Z12 n st (kB R pol_Z12 2 (kB R pol_Z12 1 (kS R pol_Z12 10 N [1,1,0,1,0,0,1,1,1] F_Z12 (kL R pol_Z12 3 N [1,1,0,1,0,0] F_Z12 a (kB R pol_Z12 0 (kS R pol_Z12 11 N [1,1,1] F_Z12 (kTop E sg_Z12 F_Z12)))))))
noncomputable def Z12.l0 (R:Run) (N n:Nat) (a b:Int) (e:vK) (f:(List (Int × Int × Int × Unit))):Option Dv := R.w (some ⟨(V.dead::(.c (.box 1 0)::(V.dead::(.c (.arr 28)::(zd 5 (.c (.d yI a)::(.c (.d yI b)::(zd 21 [])))))))),(none::(some (.box [.d yK e] false false)::(zo 26 (some (.arr (.st (.cons yI (.cons yI (.cons yI .nil)))) f true false false)::(zo 4 [])))))⟩) fun st => lC R pol_Z12 3 N [1,1,0,1,0,0] F_Z12 n st (kB R pol_Z12 0 (kS R pol_Z12 11 N [1,1,1] F_Z12 (kTop E sg_Z12 F_Z12)))
theorem Z12.l1_succ (R:Run) (hw:R.ok) (N a n:Nat) (b c d:Int) (e:(List Int)) (f g:Int) (h:vK) (i:(List (Int × Int × Int × Unit))):Z12.l1 R N a (n + 1) b c d e f g h i = (bif (decide (g < f)) then ((idx? e g).bind fun y15 => ((chk (decide ((List.length i + List.length [(b,g,(y15,()).1,())]) * 24 ≤ 70368744177664))).bind fun _ => (Z12.l1 R N a n b c d e f (w64 (g + (1:Int))) h (i ++ [(b,g,(y15,()).1,())])))) else (Z12.l0 R N a c (w64 (d + (1:Int))) h i)) := (hw _ _).trans (by kernel_rfl)
theorem Z12.l0_succ (R:Run) (hw:R.ok) (N n:Nat) (a b:Int) (c:vK) (d:(List (Int × Int × Int × Unit))):Z12.l0 R N (n + 1) a b c d = (bif (decide (b < a)) then ((callT R n_Z17 o_Z17 [⟨yK,c⟩,⟨yI,b⟩]).bind fun r6 => (Z12.l1 R N n N b a b r6.1 (List.length r6.1:Int) (0:Int) c d)) else some ⟨o_Z12,(d,())⟩) := (hw _ _).trans (by kernel_rfl)
theorem Z12.ev (R:Run) (N:Nat) (a0:vK):evFn E R sg_Z12 pol_Z12 F_Z12 N [⟨yK,a0⟩] = ((callT R n_Z27 o_Z27 [⟨yK,a0⟩]).bind fun r1 => (Z12.l0 R N N r1.1 (0:Int) a0 ([]:List (Int × Int × Int × Unit)))) := by kernel_rfl
theorem Z30.ev (R:Run) (N:Nat) (a0 a1:Int):evFn E R sg_Z30 pol_Z30 F_Z30 N [⟨yI,a0⟩,⟨yI,a1⟩] = some ⟨o_Z30,((0:Int),())⟩ := by kernel_rfl
noncomputable def Z20.l1 (R:Run) (N a n:Nat) (b e f g h i j k l m o p:Int) (q:(List Int)):Option Dv := R.w (some ⟨(V.dead::(V.dead::(.c (.d yI b)::(.c (.d (.fn n_Z30 .nil) ())::(zd 4 (.c (.box 8 0)::(.c (.box 9 0)::(.c (.d yI e)::(zd 5 (.c (.d yI f)::(.c (.d yI g)::(V.dead::(V.dead::(.c (.d yI h)::(.c (.d yI i)::(zd 14 [])))))))))))))))),(zo 8 (some (.box [.d yI j,.d yI k,.d yI l,.nils yI] false false)::(some (.box [.d yI m,.d yI o,.d yI p,.arr 31] false false)::(zo 21 (some (.arr yI q true false false)::(zo 8 []))))))⟩) fun st => lC R pol_Z19 6 N [1,1,0,1,0,0,1,1,0,0,1,1,0,0] F_Z19 n st (kB R pol_Z19 2 (kB R pol_Z19 1 (kS R pol_Z19 10 N [1,1,0,1,0,0,1,1,1] F_Z19 (kL R pol_Z19 3 N [1,1,0,1,0,0] F_Z19 a (kB R pol_Z19 0 (kS R pol_Z19 11 N [1,1,1] F_Z19 (kTop E sg_Z19 F_Z19)))))))
noncomputable def Z20.l0 (R:Run) (N n:Nat) (a b e f g h i j k:Int) (l:(List Int)):Option Dv := R.w (some ⟨(V.dead::(V.dead::(.c (.d yI a)::(.c (.d (.fn n_Z30 .nil) ())::(zd 4 (.c (.box 8 0)::(.c (.box 9 0)::(zd 6 (.c (.d yI b)::(.c (.d yI e)::(zd 18 []))))))))))),(zo 8 (some (.box [.d yI f,.d yI g,.d yI h,.nils yI] false false)::(some (.box [.d yI i,.d yI j,.d yI k,.arr 31] false false)::(zo 21 (some (.arr yI l true false false)::(zo 8 []))))))⟩) fun st => lC R pol_Z19 3 N [1,1,0,1,0,0] F_Z19 n st (kB R pol_Z19 0 (kS R pol_Z19 11 N [1,1,1] F_Z19 (kTop E sg_Z19 F_Z19)))
theorem Z20.l1_succ (R:Run) (hw:R.ok) (N a n:Nat) (b c d e f g h i j k l m:Int) (o:(List Int)):Z20.l1 R N a (n + 1) b c d e f g h i j k l m o = (bif (decide (g < f)) then ((callT R n_Z30 o_Z30 [⟨yI,c⟩,⟨yI,g⟩]).bind fun r24 => ((chk (decide ((List.length o + List.length [r24.1]) * 8 ≤ 70368744177664))).bind fun _ => (Z20.l1 R N a n b c d e f (w64 (g + (1:Int))) h i j k l m (o ++ [r24.1])))) else (Z20.l0 R N a b d (w64 (e + (1:Int))) h i j k l m o)) := (hw _ _).trans (by kernel_rfl)
theorem Z20.l0_succ (R:Run) (hw:R.ok) (N n:Nat) (a b c d e f g h i:Int) (j:(List Int)):Z20.l0 R N (n + 1) a b c d e f g h i j = (bif (decide (c < b)) then (Z20.l1 R N n N a c b c a (0:Int) d e f g h i j) else some ⟨o_Z19,(g,h,i,j,())⟩) := (hw _ _).trans (by kernel_rfl)
theorem Z20.ev (R:Run) (N:Nat) (a0 a1 a2:Int):evFn E R sg_Z19 pol_Z19 F_Z19 N [⟨yI,a0⟩,⟨yI,a1⟩,⟨yI,a2⟩,⟨(.fn n_Z30 .nil),()⟩] = (Z20.l0 R N N a2 a1 (0:Int) (0:Int) (0:Int) (0:Int) a0 a1 a2 ([]:List Int)) := by kernel_rfl
theorem Z29.ev (R:Run) (N:Nat) (a0 a1 a2:Int):evFn E R sg_Z29 pol_Z29 F_Z29 N [⟨yI,a0⟩,⟨yI,a1⟩,⟨yI,a2⟩] = ((callT R n_Z19 o_Z19 [⟨yI,a0⟩,⟨yI,a1⟩,⟨yI,a2⟩,⟨(.fn n_Z30 .nil),()⟩]).bind fun r1 => some ⟨o_Z29,(r1.1,r1.2.1,r1.2.2.1,r1.2.2.2.1,())⟩) := by kernel_rfl
theorem Z6.ev (R:Run) (N:Nat) (a0 a1 a2:Int) (a3:(Int × Unit)) (a4:((List Int) × Unit)):evFn E R sg_Z6 pol_Z6 F_Z6 N [⟨yI,a0⟩,⟨yI,a1⟩,⟨yI,a2⟩,⟨(.ptr (.cons yI .nil)),a3⟩,⟨(.ptr (.cons yL .nil)),a4⟩] = ((idx? a4.1 a0).bind fun y1 => ((idx? a4.1 a2).bind fun y2 => ((callT R n_Z29 o_Z29 [⟨yI,a3.1⟩,⟨yI,(y1,()).1⟩,⟨yI,(y2,()).1⟩]).bind fun r3 => some ⟨o_Z6,(r3.1,r3.2.1,r3.2.2.1,r3.2.2.2.1,())⟩))) := by kernel_rfl
theorem Z15.ev (R:Run) (N:Nat) (a0 a1 a2:Int) (a3:(List Int)):evFn E R sg_Z15 pol_Z15 F_Z15 N [⟨yI,a0⟩,⟨yI,a1⟩,⟨yI,a2⟩,⟨yL,a3⟩] = ((callT R n_Z56 o_Z56 [⟨yL,a3⟩]).bind fun r1 => some ⟨o_Z15,(a0,a1,a2,r1.1,())⟩) := by kernel_rfl
noncomputable def Z26.l0 (R:Run) (N n:Nat) (a:((Int × Unit) × ((List Int) × Unit) × Unit)) (b:(List (Int × Int × Int × Unit))) (e f g h:Int) (i:vN) (j:vK) (k:(List Int)):Option Dv := R.w (some ⟨(zd 3 (.c (.d (.fn n_Z6 (.cons (.ptr (.cons yI .nil)) (.cons (.ptr (.cons yL .nil)) .nil))) a)::(zd 4 (.c (.box 8 0)::(.c (.box 9 0)::(zd 10 (.c (.d (.sl (.st (.cons yI (.cons yI (.cons yI .nil))))) b)::(.c (.d yI e)::(.c (.d yI f)::(zd 14 [])))))))))),(zo 8 (some (.box [.nils yL,.d yI g,.nils yI,.nils (.st yM)] false false)::(some (.box [.arr 42,.d yI h,.arr 43,.arr 33] false false)::(zo 23 (some (.arr (.st yM) i true false false)::(zo 8 (some (.arr yL j true false false)::(some (.arr yI k true false false)::[]))))))))⟩) fun st => lC R pol_Z25 3 N [1,1,0,1,0,0] F_Z25 n st (kB R pol_Z25 0 (kS R pol_Z25 7 N [1,1,1] F_Z25 (kTop E sg_Z25 F_Z25)))
theorem Z26.l0_succ (R:Run) (hw:R.ok) (N n:Nat) (a:((Int × Unit) × ((List Int) × Unit) × Unit)) (b:(List (Int × Int × Int × Unit))) (c d e f:Int) (g:vN) (h:vK) (i:(List Int)):Z26.l0 R N (n + 1) a b c d e f g h i = (bif (decide (d < c)) then ((idx? b d).bind fun y13 => ((callT R n_Z6 o_Z6 [⟨yI,y13.1⟩,⟨yI,y13.2.1⟩,⟨yI,y13.2.2.1⟩,⟨(.ptr (.cons yI .nil)),a.1⟩,⟨(.ptr (.cons yL .nil)),a.2.1⟩]).bind fun r14 => ((callT R n_Z15 o_Z15 [⟨yI,r14.1⟩,⟨yI,r14.2.1⟩,⟨yI,r14.2.2.1⟩,⟨yL,r14.2.2.2.1⟩]).bind fun r15 => ((chk (decide ((List.length g + List.length [(r15.1,r15.2.1,r15.2.2.1,r15.2.2.2.1,())]) * 48 ≤ 70368744177664))).bind fun _ => (Z26.l0 R N n a b c (w64 (d + (1:Int))) e f (g ++ [(r15.1,r15.2.1,r15.2.2.1,r15.2.2.2.1,())]) h i))))) else some ⟨o_Z25,(h,f,i,g,())⟩) := (hw _ _).trans (by kernel_rfl)
theorem Z26.ev (R:Run) (N:Nat) (a0:vK) (a1:Int) (a2:(List Int)) (a3:((Int × Unit) × ((List Int) × Unit) × Unit)):evFn E R sg_Z25 pol_Z25 F_Z25 N [⟨yK,a0⟩,⟨yI,a1⟩,⟨yL,a2⟩,⟨(.fn n_Z6 (.cons (.ptr (.cons yI .nil)) (.cons (.ptr (.cons yL .nil)) .nil))),a3⟩] = ((callT R n_Z21 o_Z21 [⟨yK,a0⟩]).bind fun r1 => ((callT R n_Z56 o_Z56 [⟨yL,a2⟩]).bind fun r2 => ((callT R n_Z12 o_Z12 [⟨yK,a0⟩]).bind fun r3 => (Z26.l0 R N N a3 r3.1 (List.length r3.1:Int) (0:Int) (0:Int) a1 ([]:List vM) r1.1 r2.1)))) := by kernel_rfl
noncomputable def Z5.j1 (R:Run) (N:Nat) (a b:Int) (e:Bool) (f:vK) (g h:Int):Option Dv := R.w (some ⟨(V.dead::(V.dead::(.c (.d yI a)::(.c (.d yI b)::(.c (.box 4 0)::(.c (.box 5 0)::(V.dead::(V.dead::(.c (.box 8 0)::(zd 22 (.c (.d .bool e)::(zd 12 [])))))))))))),(zo 4 (some (.box [.d yK f] false false)::(some (.box [.d yI g] false false)::(none::(none::(some (.box [.nils yL,.d yI h,.nils yI,.nils (.st yM)] false false)::(zo 43 [])))))))⟩) fun st => eC R pol_Z5 N [1,1,0,1] F_Z5 st (kS R pol_Z5 5 N [1,1,1] F_Z5 (kTop E sg_Z5 F_Z5))
noncomputable def Z5.j0 (R:Run) (N:Nat) (a b:Int) (e:Bool) (f:vK) (g h:Int):Option Dv := R.w (some ⟨(V.dead::(V.dead::(.c (.d yI a)::(.c (.d yI b)::(.c (.box 4 0)::(.c (.box 5 0)::(V.dead::(V.dead::(.c (.box 8 0)::(zd 9 (.c (.d .bool e)::(zd 25 [])))))))))))),(zo 4 (some (.box [.d yK f] false false)::(some (.box [.d yI g] false false)::(none::(none::(some (.box [.nils yL,.d yI h,.nils yI,.nils (.st yM)] false false)::(zo 43 [])))))))⟩) fun st => eC R pol_Z5 N [1,0,1] F_Z5 st (kS R pol_Z5 3 N [1,1] F_Z5 (kTop E sg_Z5 F_Z5))
theorem Z5.j1_eq (R:Run) (hw:R.ok) (N:Nat) (a b:Int) (c:Bool) (d:vK) (e f:Int):Z5.j1 R N a b c d e f = (bif c then some ⟨o_Z5,(([]:List (List Int)),(0:Int),([]:List Int),([]:List vM),(2:Int),())⟩ else ((callT R n_Z16 o_Z16 [⟨yK,d⟩,⟨yI,(0:Int)⟩]).bind fun r16 => ((chk (decide (0 ≤ a) && decide (a < (List.length r16.1:Int)))).bind fun _ => ((callT R n_Z25 o_Z25 [⟨yK,d⟩,⟨yI,e⟩,⟨yL,(List.set r16.1 (Int.toNat a) b)⟩,⟨(.fn n_Z6 (.cons (.ptr (.cons yI .nil)) (.cons (.ptr (.cons yL .nil)) .nil))),((e,()),((List.set r16.1 (Int.toNat a) b),()),())⟩]).bind fun r17 => some ⟨o_Z5,(r17.1,r17.2.1,r17.2.2.1,r17.2.2.2.1,(0:Int),())⟩)))) := (hw _ _).trans (by kernel_rfl)
theorem Z5.j0_eq (R:Run) (hw:R.ok) (N:Nat) (a b:Int) (c:Bool) (d:vK) (e f:Int):Z5.j0 R N a b c d e f = (bif c then some ⟨o_Z5,(([]:List (List Int)),(0:Int),([]:List Int),([]:List vM),(1:Int),())⟩ else ((callT R n_Z27 o_Z27 [⟨yK,d⟩]).bind fun r8 => ((callT R n_Z28 o_Z28 [⟨yI,a⟩,⟨yI,(0:Int)⟩,⟨yI,(w64 (r8.1 - (1:Int)))⟩]).bind fun r9 => (bif (!r9.1) then (Z5.j1 R N a b true d e f) else ((callT R n_Z28 o_Z28 [⟨yI,b⟩,⟨yI,(0:Int)⟩,⟨yI,(3:Int)⟩]).bind fun r18 => (Z5.j1 R N a b (!r18.1) d e f)))))) := (hw _ _).trans (by kernel_rfl)
theorem Z5.ev (R:Run) (N:Nat) (a0:vK) (a1 a2 a3:Int):evFn E R sg_Z5 pol_Z5 F_Z5 N [⟨yK,a0⟩,⟨yI,a1⟩,⟨yI,a2⟩,⟨yI,a3⟩] = ((callT R n_Z7 o_Z7 [⟨yK,a0⟩]).bind fun r1 => (bif (!r1.1) then (Z5.j0 R N a2 a3 true a0 a1 (0:Int)) else ((callT R n_Z9 o_Z9 [⟨yI,a1⟩]).bind fun r25 => (Z5.j0 R N a2 a3 (!r25.1) a0 a1 (0:Int))))) := by kernel_rfl
noncomputable def Z33.l0 (R:Run) (N n:Nat) (a b:(List Int)) (e:Int):Option Dv := R.w (some ⟨(.c (.d yL a)::(.c (.d yL b)::(zd 3 (.c (.d yI e)::(zd 20 []))))),(zo 28 [])⟩) fun st => lC R pol_Z33 4 N [1,1,0,1,0,0] F_Z33 n st (kB R pol_Z33 0 (kS R pol_Z33 8 N [1,1,1] F_Z33 (kTop E sg_Z33 F_Z33)))
theorem Z33.l0_succ (R:Run) (hw:R.ok) (N n:Nat) (a b:(List Int)) (c:Int):Z33.l0 R N (n + 1) a b c = (bif (decide (c < (List.length a:Int))) then ((idx? a c).bind fun y4 => ((idx? b c).bind fun y5 => (bif ((y4,()).1 != (y5,()).1) then some ⟨o_Z33,(false,())⟩ else (Z33.l0 R N n a b (w64 (c + (1:Int))))))) else some ⟨o_Z33,(true,())⟩) := (hw _ _).trans (by kernel_rfl)
theorem Z33.ev (R:Run) (N:Nat) (a0 a1:(List Int)):evFn E R sg_Z33 pol_Z33 F_Z33 N [⟨yL,a0⟩,⟨yL,a1⟩] = (bif ((List.length a0:Int) != (List.length a1:Int)) then some ⟨o_Z33,(false,())⟩ else (Z33.l0 R N N a0 a1 (0:Int))) := by kernel_rfl
noncomputable def Z34.l0 (R:Run) (N n:Nat) (a b:vK) (e:Int):Option Dv := R.w (some ⟨(.c (.d yK a)::(.c (.d yK b)::(zd 3 (.c (.d yI e)::(zd 21 []))))),(zo 29 [])⟩) fun st => lC R pol_Z34 4 N [1,1,0,1,0,0] F_Z34 n st (kB R pol_Z34 0 (kS R pol_Z34 8 N [1,1,1] F_Z34 (kTop E sg_Z34 F_Z34)))
theorem Z34.l0_succ (R:Run) (hw:R.ok) (N n:Nat) (a b:vK) (c:Int):Z34.l0 R N (n + 1) a b c = (bif (decide (c < (List.length a:Int))) then ((idx? a c).bind fun y4 => ((idx? b c).bind fun y5 => ((callT R n_Z33 o_Z33 [⟨yL,(y4,()).1⟩,⟨yL,(y5,()).1⟩]).bind fun r6 => (bif (!r6.1) then some ⟨o_Z34,(false,())⟩ else (Z34.l0 R N n a b (w64 (c + (1:Int)))))))) else some ⟨o_Z34,(true,())⟩) := (hw _ _).trans (by kernel_rfl)
theorem Z34.ev (R:Run) (N:Nat) (a0 a1:vK):evFn E R sg_Z34 pol_Z34 F_Z34 N [⟨yK,a0⟩,⟨yK,a1⟩] = (bif ((List.length a0:Int) != (List.length a1:Int)) then some ⟨o_Z34,(false,())⟩ else (Z34.l0 R N N a0 a1 (0:Int))) := by kernel_rfl
theorem Z32.ev (R:Run) (N:Nat) (a0 a1:vK):evFn E R sg_Z32 pol_Z32 F_Z32 N [⟨yK,a0⟩,⟨yK,a1⟩] = ((callT R n_Z34 o_Z34 [⟨yK,a0⟩,⟨yK,a1⟩]).bind fun r1 => (bif (!r1.1) then some ⟨o_Z32,(false,())⟩ else some ⟨o_Z32,(true,())⟩)) := by kernel_rfl
theorem Z35.ev (R:Run) (N:Nat) (a0 a1 a2:Int) (a3:(List Int)) (a4 a5 a6:Int) (a7:(List Int)):evFn E R sg_Z35 pol_Z35 F_Z35 N [⟨yI,a0⟩,⟨yI,a1⟩,⟨yI,a2⟩,⟨yL,a3⟩,⟨yI,a4⟩,⟨yI,a5⟩,⟨yI,a6⟩,⟨yL,a7⟩] = (bif (a0 != a4) then some ⟨o_Z35,(false,())⟩ else (bif (a1 != a5) then some ⟨o_Z35,(false,())⟩ else (bif (a2 != a6) then some ⟨o_Z35,(false,())⟩ else ((callT R n_Z33 o_Z33 [⟨yL,a3⟩,⟨yL,a7⟩]).bind fun r1 => (bif (!r1.1) then some ⟨o_Z35,(false,())⟩ else some ⟨o_Z35,(true,())⟩))))) := by kernel_rfl
noncomputable def Z36.l0 (R:Run) (N n:Nat) (a b:vN) (e:Int):Option Dv := R.w (some ⟨(.c (.d yN a)::(.c (.d yN b)::(zd 3 (.c (.d yI e)::(zd 21 []))))),(zo 29 [])⟩) fun st => lC R pol_Z36 4 N [1,1,0,1,0,0] F_Z36 n st (kB R pol_Z36 0 (kS R pol_Z36 8 N [1,1,1] F_Z36 (kTop E sg_Z36 F_Z36)))
theorem Z36.l0_succ (R:Run) (hw:R.ok) (N n:Nat) (a b:vN) (c:Int):Z36.l0 R N (n + 1) a b c = (bif (decide (c < (List.length a:Int))) then ((idx? a c).bind fun y4 => ((idx? b c).bind fun y5 => ((callT R n_Z35 o_Z35 [⟨yI,y4.1⟩,⟨yI,y4.2.1⟩,⟨yI,y4.2.2.1⟩,⟨yL,y4.2.2.2.1⟩,⟨yI,y5.1⟩,⟨yI,y5.2.1⟩,⟨yI,y5.2.2.1⟩,⟨yL,y5.2.2.2.1⟩]).bind fun r6 => (bif (!r6.1) then some ⟨o_Z36,(false,())⟩ else (Z36.l0 R N n a b (w64 (c + (1:Int)))))))) else some ⟨o_Z36,(true,())⟩) := (hw _ _).trans (by kernel_rfl)
theorem Z36.ev (R:Run) (N:Nat) (a0 a1:vN):evFn E R sg_Z36 pol_Z36 F_Z36 N [⟨yN,a0⟩,⟨yN,a1⟩] = (bif ((List.length a0:Int) != (List.length a1:Int)) then some ⟨o_Z36,(false,())⟩ else (Z36.l0 R N N a0 a1 (0:Int))) := by kernel_rfl
theorem Z37.ev (R:Run) (N:Nat) (a0:vK) (a1:Int) (a2:(List Int)) (a3:vN) (a4:vK) (a5:Int) (a6:(List Int)) (a7:vN):evFn E R sg_Z37 pol_Z37 F_Z37 N [⟨yK,a0⟩,⟨yI,a1⟩,⟨yL,a2⟩,⟨yN,a3⟩,⟨yK,a4⟩,⟨yI,a5⟩,⟨yL,a6⟩,⟨yN,a7⟩] = ((callT R n_Z32 o_Z32 [⟨yK,a0⟩,⟨yK,a4⟩]).bind fun r1 => (bif (!r1.1) then some ⟨o_Z37,(false,())⟩ else (bif (a1 != a5) then some ⟨o_Z37,(false,())⟩ else ((callT R n_Z33 o_Z33 [⟨yL,a2⟩,⟨yL,a6⟩]).bind fun r2 => (bif (!r2.1) then some ⟨o_Z37,(false,())⟩ else ((callT R n_Z36 o_Z36 [⟨yN,a3⟩,⟨yN,a7⟩]).bind fun r3 => (bif (!r3.1) then some ⟨o_Z37,(false,())⟩ else some ⟨o_Z37,(true,())⟩))))))) := by kernel_rfl
noncomputable def Z44.l0 (R:Run) (N n:Nat) (a b:Int) (e:(List Int)):Option Dv := R.w (some ⟨(.c (.arr 19)::(.c (.d yI a)::(zd 3 (.c (.d yI b)::(zd 13 []))))),(zo 19 (some (.arr yI e true false true)::(none::[])))⟩) fun st => lC R pol_Z44 2 N [1,0,1,0,0] F_Z44 n st (kB R pol_Z44 0 (kS R pol_Z44 6 N [1,1] F_Z44 (kTop E sg_Z44 F_Z44)))
theorem Z44.l0_succ (R:Run) (hw:R.ok) (N n:Nat) (a b:Int) (c:(List Int)):Z44.l0 R N (n + 1) a b c = (bif (decide (b < (List.length c:Int))) then ((chk (decide (0 ≤ b) && decide (b < (List.length c:Int)))).bind fun _ => (Z44.l0 R N n (w64 (a + (1:Int))) (w64 (b + (1:Int))) (List.set c (Int.toNat b) a))) else some ⟨o_Z44,(a,c,())⟩) := (hw _ _).trans (by kernel_rfl)
theorem Z44.ev (R:Run) (N:Nat) (a0:(List Int)) (a1:Int):evFn E R sg_Z44 pol_Z44 F_Z44 N [⟨yL,a0⟩,⟨yI,a1⟩] = (Z44.l0 R N N a1 (0:Int) a0) := by kernel_rfl
theorem Z43.ev (R:Run) (N:Nat) (a0:vK) (a1:Int):evFn E R sg_Z43 pol_Z43 F_Z43 N [⟨yK,a0⟩,⟨yI,a1⟩] = ((callT R n_Z45 o_Z45 [⟨yK,a0⟩,⟨yI,a1⟩]).bind fun r1 => some ⟨o_Z43,(r1.1,r1.2.1,())⟩) := by kernel_rfl
theorem Z47.ev (R:Run) (N:Nat) (a0:vK) (a1:Int) (a2:(List Int)) (a3:vN) (a4:Int):evFn E R sg_Z47 pol_Z47 F_Z47 N [⟨yK,a0⟩,⟨yI,a1⟩,⟨yL,a2⟩,⟨yN,a3⟩,⟨yI,a4⟩] = ((callT R n_Z43 o_Z43 [⟨yK,a0⟩,⟨yI,a4⟩]).bind fun r1 => ((callT R n_Z44 o_Z44 [⟨yL,a2⟩,⟨yI,r1.1⟩]).bind fun r2 => ((callT R n_Z46 o_Z46 [⟨yN,a3⟩,⟨yI,r2.1⟩]).bind fun r3 => some ⟨o_Z47,(r3.1,r1.2.1,r2.2.1,r3.2.1,())⟩))) := by kernel_rfl
noncomputable def Z39.l0 (R:Run) (N n:Nat) (a:(List Int)) (b e:Int):Option Dv := R.w (some ⟨(.c (.d yL a)::(.c (.d yI b)::(zd 3 (.c (.d yI e)::(zd 15 []))))),(zo 23 [])⟩) fun st => lC R pol_Z39 2 N [1,0,1,0,0] F_Z39 n st (kB R pol_Z39 0 (kS R pol_Z39 7 N [1,1] F_Z39 (kTop E sg_Z39 F_Z39)))
theorem Z39.l0_succ (R:Run) (hw:R.ok) (N n:Nat) (a:(List Int)) (b c:Int):Z39.l0 R N (n + 1) a b c = (bif (decide (c < (List.length a:Int))) then ((idx? a c).bind fun y4 => (bif ((y4,()).1 != b) then some ⟨o_Z39,((-1:Int),())⟩ else (Z39.l0 R N n a (w64 (b + (1:Int))) (w64 (c + (1:Int)))))) else some ⟨o_Z39,(b,())⟩) := (hw _ _).trans (by kernel_rfl)
theorem Z39.ev (R:Run) (N:Nat) (a0:(List Int)) (a1:Int):evFn E R sg_Z39 pol_Z39 F_Z39 N [⟨yL,a0⟩,⟨yI,a1⟩] = (Z39.l0 R N N a0 a1 (0:Int)) := by kernel_rfl
noncomputable def Z40.l0 (R:Run) (N n:Nat) (a:vK) (b e:Int):Option Dv := R.w (some ⟨(.c (.d yK a)::(.c (.d yI b)::(zd 3 (.c (.d yI e)::(zd 15 []))))),(zo 23 [])⟩) fun st => lC R pol_Z40 2 N [1,0,1,0,0] F_Z40 n st (kB R pol_Z40 0 (kS R pol_Z40 7 N [1,1] F_Z40 (kTop E sg_Z40 F_Z40)))
theorem Z40.l0_succ (R:Run) (hw:R.ok) (N n:Nat) (a:vK) (b c:Int):Z40.l0 R N (n + 1) a b c = (bif (decide (c < (List.length a:Int))) then ((idx? a c).bind fun y4 => ((callT R n_Z39 o_Z39 [⟨yL,(y4,()).1⟩,⟨yI,b⟩]).bind fun r5 => (bif (decide (r5.1 < (0:Int))) then some ⟨o_Z40,((-1:Int),())⟩ else (Z40.l0 R N n a r5.1 (w64 (c + (1:Int))))))) else some ⟨o_Z40,(b,())⟩) := (hw _ _).trans (by kernel_rfl)
theorem Z40.ev (R:Run) (N:Nat) (a0:vK) (a1:Int):evFn E R sg_Z40 pol_Z40 F_Z40 N [⟨yK,a0⟩,⟨yI,a1⟩] = (Z40.l0 R N N a0 a1 (0:Int)) := by kernel_rfl
theorem Z38.ev (R:Run) (N:Nat) (a0:vK) (a1:Int):evFn E R sg_Z38 pol_Z38 F_Z38 N [⟨yK,a0⟩,⟨yI,a1⟩] = ((callT R n_Z40 o_Z40 [⟨yK,a0⟩,⟨yI,a1⟩]).bind fun r1 => (bif (decide (r1.1 < (0:Int))) then some ⟨o_Z38,((-1:Int),())⟩ else some ⟨o_Z38,(r1.1,())⟩)) := by kernel_rfl
noncomputable def Z41.l0 (R:Run) (N n:Nat) (a:vN) (b e:Int):Option Dv := R.w (some ⟨(.c (.d yN a)::(.c (.d yI b)::(zd 3 (.c (.d yI e)::(zd 43 []))))),(zo 51 [])⟩) fun st => lC R pol_Z41 2 N [1,0,1,0,0] F_Z41 n st (kB R pol_Z41 0 (kS R pol_Z41 16 N [1,1] F_Z41 (kTop E sg_Z41 F_Z41)))
theorem Z41.l0_succ (R:Run) (hw:R.ok) (N n:Nat) (a:vN) (b c:Int):Z41.l0 R N (n + 1) a b c = (bif (decide (c < (List.length a:Int))) then ((idx? a c).bind fun y4 => (bif (y4.1 != b) then some ⟨o_Z41,((-1:Int),())⟩ else ((idx? a c).bind fun y5 => (bif (y5.2.1 != (w64 (b + (1:Int)))) then some ⟨o_Z41,((-1:Int),())⟩ else ((idx? a c).bind fun y6 => (bif (y6.2.2.1 != (w64 ((w64 (b + (1:Int))) + (1:Int)))) then some ⟨o_Z41,((-1:Int),())⟩ else ((idx? a c).bind fun y7 => ((callT R n_Z39 o_Z39 [⟨yL,y7.2.2.2.1⟩,⟨yI,(w64 ((w64 ((w64 (b + (1:Int))) + (1:Int))) + (1:Int)))⟩]).bind fun r8 => (bif (decide (r8.1 < (0:Int))) then some ⟨o_Z41,((-1:Int),())⟩ else (Z41.l0 R N n a r8.1 (w64 (c + (1:Int))))))))))))) else some ⟨o_Z41,(b,())⟩) := (hw _ _).trans (by kernel_rfl)
theorem Z41.ev (R:Run) (N:Nat) (a0:vN) (a1:Int):evFn E R sg_Z41 pol_Z41 F_Z41 N [⟨yN,a0⟩,⟨yI,a1⟩] = (Z41.l0 R N N a0 a1 (0:Int)) := by kernel_rfl
end VeT

open Go Go.Proofs Ve
set_option linter.unusedVariables false
set_option maxRecDepth 100000
namespace VeT
theorem Z42.ev (R:Run) (N:Nat) (a0:vK) (a1:Int) (a2:(List Int)) (a3:vN) (a4:Int):evFn E R sg_Z42 pol_Z42 F_Z42 N [⟨yK,a0⟩,⟨yI,a1⟩,⟨yL,a2⟩,⟨yN,a3⟩,⟨yI,a4⟩] = ((callT R n_Z38 o_Z38 [⟨yK,a0⟩,⟨yI,a4⟩]).bind fun r1 => (bif (decide (r1.1 < (0:Int))) then some ⟨o_Z42,((-1:Int),())⟩ else ((callT R n_Z39 o_Z39 [⟨yL,a2⟩,⟨yI,r1.1⟩]).bind fun r2 => (bif (decide (r2.1 < (0:Int))) then some ⟨o_Z42,((-1:Int),())⟩ else ((callT R n_Z41 o_Z41 [⟨yN,a3⟩,⟨yI,r2.1⟩]).bind fun r3 => (bif (decide (r3.1 < (0:Int))) then some ⟨o_Z42,((-1:Int),())⟩ else some ⟨o_Z42,(r3.1,())⟩)))))) := by kernel_rfl
noncomputable def Z31.j2 (R:Run) (N:Nat) (a:Int) (b:Bool) (e:Int) (f:vK) (g:(List Int)) (h:vN):Option Dv := R.w (some ⟨(zd 13 (.c (.box 13 0)::(V.dead::(V.dead::(.c (.d yI a)::(zd 85 (.c (.d .bool b)::(zd 8 [])))))))),(zo 13 (some (.box [.arr 116,.d yI e,.arr 117,.arr 118] false false)::(zo 102 (some (.arr yL f true false false)::(some (.arr yI g true false false)::(some (.arr (.st yM) h true false false)::[]))))))⟩) fun st => eC R pol_Z31 N [1,1,1,1,1,1,1,1,1,1,1,1,1,1,1,1,1,1,1,0,1] F_Z31 st (kS R pol_Z31 27 N [1,1,1,1,1,1,1,1,1,1,1,1,1,1,1,1,1,1,1,1] F_Z31 (kTop E sg_Z31 F_Z31))
noncomputable def Z31.j1 (R:Run) (N:Nat) (a b e f:Int) (g:Bool) (h i:vK) (j:Int) (k:(List Int)) (l:vN) (m:Int) (o:vK) (p:(List Int)) (q:vN):Option Dv := R.w (some ⟨(V.dead::(.c (.d yI a)::(.c (.d yI b)::(.c (.d yI e)::(.c (.box 4 0)::(zd 5 (.c (.box 10 0)::(.c (.d yI f)::(V.dead::(.c (.box 13 0)::(zd 59 (.c (.d .bool g)::(zd 37 []))))))))))))),(zo 4 (some (.box [.d yK h] false false)::(zo 5 (some (.box [.d yK i,.d yI j,.d yL k,.d yN l] false false)::(none::(none::(some (.box [.arr 116,.d yI m,.arr 117,.arr 118] false false)::(zo 102 (some (.arr yL o true false false)::(some (.arr yI p true false false)::(some (.arr (.st yM) q true false false)::[])))))))))))⟩) fun st => eC R pol_Z31 N [1,1,1,1,1,1,1,1,1,1,1,0,1] F_Z31 st (kS R pol_Z31 16 N [1,1,1,1,1,1,1,1,1,1,1,1] F_Z31 (kTop E sg_Z31 F_Z31))
noncomputable def Z31.j0 (R:Run) (N:Nat) (a b e f g:Int) (h:Bool) (i j:vK) (k:Int) (l:(List Int)) (m:vN) (o:Int) (p q:vK) (r:(List Int)) (s:vN):Option Dv := R.w (some ⟨(V.dead::(.c (.d yI a)::(.c (.d yI b)::(.c (.d yI e)::(.c (.box 4 0)::(zd 5 (.c (.box 10 0)::(.c (.d yI f)::(.c (.box 12 0)::(.c (.box 13 0)::(.c (.d yI g)::(zd 37 (.c (.d .bool h)::(zd 58 [])))))))))))))),(zo 4 (some (.box [.d yK i] false false)::(zo 5 (some (.box [.d yK j,.d yI k,.d yL l,.d yN m] false false)::(none::(some (.box [.arr 115] false false)::(some (.box [.arr 116,.d yI o,.arr 117,.arr 118] false false)::(zo 101 (some (.arr yL p true false false)::(some (.arr yL q true false false)::(some (.arr yI r true false false)::(some (.arr (.st yM) s true false false)::[]))))))))))))⟩) fun st => eC R pol_Z31 N [1,1,1,1,1,1,1,0,1] F_Z31 st (kS R pol_Z31 10 N [1,1,1,1,1,1,1,1] F_Z31 (kTop E sg_Z31 F_Z31))
theorem Z31.j2_eq (R:Run) (hw:R.ok) (N:Nat) (a:Int) (b:Bool) (c:Int) (d:vK) (e:(List Int)) (f:vN):Z31.j2 R N a b c d e f = (bif b then some ⟨o_Z31,(false,())⟩ else ((callT R n_Z42 o_Z42 [⟨yK,d⟩,⟨yI,c⟩,⟨yL,e⟩,⟨yN,f⟩,⟨yI,(1:Int)⟩]).bind fun r51 => (bif (decide (r51.1 < (0:Int))) then some ⟨o_Z31,(false,())⟩ else (bif (r51.1 != a) then some ⟨o_Z31,(false,())⟩ else some ⟨o_Z31,(true,())⟩)))) := (hw _ _).trans (by kernel_rfl)
theorem Z31.j1_eq (R:Run) (hw:R.ok) (N:Nat) (a b c d:Int) (e:Bool) (f g:vK) (h:Int) (i:(List Int)) (j:vN) (k:Int) (l:vK) (m:(List Int)) (o:vN):Z31.j1 R N a b c d e f g h i j k l m o = (bif e then some ⟨o_Z31,(false,())⟩ else ((callT R n_Z47 o_Z47 [⟨yK,l⟩,⟨yI,k⟩,⟨yL,m⟩,⟨yN,o⟩,⟨yI,(1:Int)⟩]).bind fun r40 => ((callT R n_Z42 o_Z42 [⟨yK,r40.2.1⟩,⟨yI,k⟩,⟨yL,r40.2.2.1⟩,⟨yN,r40.2.2.2.1⟩,⟨yI,(1:Int)⟩]).bind fun r41 => (bif (decide (r41.1 < (0:Int))) then some ⟨o_Z31,(false,())⟩ else (bif (r41.1 != r40.1) then some ⟨o_Z31,(false,())⟩ else ((callT R n_Z51 o_Z51 [⟨yK,f⟩]).bind fun r42 => ((callT R n_Z5 o_Z5 [⟨yK,r42.1⟩,⟨yI,a⟩,⟨yI,b⟩,⟨yI,c⟩]).bind fun r43 => ((callT R n_Z37 o_Z37 [⟨yK,r43.1⟩,⟨yI,r43.2.1⟩,⟨yL,r43.2.2.1⟩,⟨yN,r43.2.2.2.1⟩,⟨yK,g⟩,⟨yI,h⟩,⟨yL,i⟩,⟨yN,j⟩]).bind fun r44 => (bif (!r44.1) then (Z31.j2 R N r40.1 true k r40.2.1 r40.2.2.1 r40.2.2.2.1) else (Z31.j2 R N r40.1 (r43.2.2.2.2.1 != d) k r40.2.1 r40.2.2.1 r40.2.2.2.1)))))))))) := (hw _ _).trans (by kernel_rfl)
theorem Z31.j0_eq (R:Run) (hw:R.ok) (N:Nat) (a b c d e:Int) (f:Bool) (g h:vK) (i:Int) (j:(List Int)) (k:vN) (l:Int) (m o:vK) (p:(List Int)) (q:vN):Z31.j0 R N a b c d e f g h i j k l m o p q = (bif f then some ⟨o_Z31,(false,())⟩ else ((callT R n_Z51 o_Z51 [⟨yK,g⟩]).bind fun r23 => ((callT R n_Z32 o_Z32 [⟨yK,m⟩,⟨yK,r23.1⟩]).bind fun r24 => (bif (!r24.1) then some ⟨o_Z31,(false,())⟩ else ((callT R n_Z43 o_Z43 [⟨yK,m⟩,⟨yI,(1:Int)⟩]).bind fun r25 => (bif (decide (r25.1 < (0:Int))) then (Z31.j1 R N a b c d true g h i j k l o p q) else ((callT R n_Z37 o_Z37 [⟨yK,o⟩,⟨yI,l⟩,⟨yL,p⟩,⟨yN,q⟩,⟨yK,h⟩,⟨yI,i⟩,⟨yL,j⟩,⟨yN,k⟩]).bind fun r58 => (bif (!r58.1) then (Z31.j1 R N a b c d true g h i j k l o p q) else (Z31.j1 R N a b c d (e != d) g h i j k l o p q))))))))) := (hw _ _).trans (by kernel_rfl)
theorem Z31.ev (R:Run) (N:Nat) (a0:vK) (a1 a2 a3:Int):evFn E R sg_Z31 pol_Z31 F_Z31 N [⟨yK,a0⟩,⟨yI,a1⟩,⟨yI,a2⟩,⟨yI,a3⟩] = ((callT R n_Z48 o_Z48 [⟨yK,a0⟩,⟨yI,(1048576:Int)⟩]).bind fun r1 => (bif (decide (r1.1 < (0:Int))) then some ⟨o_Z31,(true,())⟩ else ((callT R n_Z51 o_Z51 [⟨yK,a0⟩]).bind fun r2 => ((callT R n_Z71 o_Z71 [⟨yK,r2.1⟩,⟨yI,a1⟩,⟨yI,a2⟩,⟨yI,a3⟩]).bind fun r3 => ((callT R n_Z51 o_Z51 [⟨yK,a0⟩]).bind fun r4 => ((callT R n_Z5 o_Z5 [⟨yK,r4.1⟩,⟨yI,a1⟩,⟨yI,a2⟩,⟨yI,a3⟩]).bind fun r5 => ((callT R n_Z37 o_Z37 [⟨yK,r5.1⟩,⟨yI,r5.2.1⟩,⟨yL,r5.2.2.1⟩,⟨yN,r5.2.2.2.1⟩,⟨yK,r3.1⟩,⟨yI,r3.2.1⟩,⟨yL,r3.2.2.1⟩,⟨yN,r3.2.2.2.1⟩]).bind fun r6 => (bif (!r6.1) then (Z31.j0 R N a1 a2 a3 r3.2.2.2.2.1 r5.2.2.2.2.1 true a0 r3.1 r3.2.1 r3.2.2.1 r3.2.2.2.1 r5.2.1 r4.1 r5.1 r5.2.2.1 r5.2.2.2.1) else (Z31.j0 R N a1 a2 a3 r3.2.2.2.2.1 r5.2.2.2.2.1 (r5.2.2.2.2.1 != r3.2.2.2.2.1) a0 r3.1 r3.2.1 r3.2.2.1 r3.2.2.2.1 r5.2.1 r4.1 r5.1 r5.2.2.1 r5.2.2.2.1))))))))) := by kernel_rfl
end VeT


set_option linter.unusedVariables false
set_option linter.unusedSimpArgs false
namespace Go.Proofs
open Go.Shelf
def Try.sortf66_ren : Go.Shelf.Ren := ⟨fun | 6 => 66 | 15 => 95 | 14 => 94 | 28 => 112 | 29 => 113 | 20 => 104 | 21 => 105 | 22 => 106 | 23 => 107 | 24 => 108 | 25 => 109 | 26 => 110 | 27 => 111 | 46 => 116 | 47 => 117 | 48 => 118 | 49 => 119 | 50 => 120 | 57 => 121 | n => n, fun | 22 => 22 | 24 => 36 | 25 => 81 | 3 => 3 | 39 => 105 | 0 => 0 | 53 => 119 | 55 => 121 | 4 => 4 | 46 => 113 | 45 => 112 | 50 => 101 | 5 => 5 | 9 => 9 | 66 => 122 | 70 => 126 | 76 => 128 | 77 => 129 | n => n, fun | n => n⟩
theorem Try.sortf66 : Go.Proofs.SlLaysF.n6 Try.prog Try.sortf66_ren := {
  mixed := by kernel_rfl
  f6 := ⟨Try.f66.name, by decide, Try.func66.trans (congrArg some (by kernel_rfl))⟩
  f14 := ⟨Try.f94.name, by decide, Try.func94.trans (congrArg some (by kernel_rfl))⟩
  f15 := Try.func95.trans (congrArg some (by kernel_rfl))
  f20 := ⟨Try.f104.name, by decide, Try.func104.trans (congrArg some (by kernel_rfl))⟩
  f21 := ⟨Try.f105.name, by decide, Try.func105.trans (congrArg some (by kernel_rfl))⟩
  f22 := ⟨Try.f106.name, by decide, Try.func106.trans (congrArg some (by kernel_rfl))⟩
  f23 := ⟨Try.f107.name, by decide, Try.func107.trans (congrArg some (by kernel_rfl))⟩
  f24 := ⟨Try.f108.name, by decide, Try.func108.trans (congrArg some (by kernel_rfl))⟩
  f25 := ⟨Try.f109.name, by decide, Try.func109.trans (congrArg some (by kernel_rfl))⟩
  f26 := ⟨Try.f110.name, by decide, Try.func110.trans (congrArg some (by kernel_rfl))⟩
  f27 := ⟨Try.f111.name, by decide, Try.func111.trans (congrArg some (by kernel_rfl))⟩
  f28 := Try.func112.trans (congrArg some (by kernel_rfl))
  f29 := Try.func113.trans (congrArg some (by kernel_rfl))
  f46 := ⟨Try.f116.name, by decide, Try.func116.trans (congrArg some (by kernel_rfl))⟩
  f47 := Try.func117.trans (congrArg some (by kernel_rfl))
  f48 := Try.func118.trans (congrArg some (by kernel_rfl))
  f49 := ⟨Try.f119.name, by decide, Try.func119.trans (congrArg some (by kernel_rfl))⟩
  f50 := ⟨Try.f120.name, by decide, Try.func120.trans (congrArg some (by kernel_rfl))⟩
  f57 := ⟨Try.f121.name, by decide, Try.func121.trans (congrArg some (by kernel_rfl))⟩
  t0 := Try.underlying0
  a0 := Try.isAgg0
  z0 := Try.sizeOf0
  v0 := Try.zeroValue0
  t3 := Try.underlying3
  a3 := Try.isAgg3
  z3 := Try.sizeOf3
  v3 := Try.zeroValue3
  t4 := Try.underlying4
  a4 := Try.isAgg4
  z4 := Try.sizeOf4
  v4 := Try.zeroValue4
  t5 := Try.underlying5
  a5 := Try.isAgg5
  z5 := Try.sizeOf5
  v5 := Try.zeroValue5
  t9 := Try.underlying9
  a9 := Try.isAgg9
  z9 := Try.sizeOf9
  v9 := Try.zeroValue9
  t22 := Try.underlying22
  a22 := Try.isAgg22
  z22 := Try.sizeOf22
  v22 := Try.zeroValue22
  a24 := Try.isAgg36
  z24 := Try.sizeOf36
  t25 := Try.underlying81
  a25 := Try.isAgg81
  z25 := Try.sizeOf81
  v25 := Try.zeroValue81
  t39 := Try.underlying105
  a39 := Try.isAgg105
  z39 := Try.sizeOf105
  v39 := Try.zeroValue105
  t45 := Try.underlying112
  a45 := Try.isAgg112
  z45 := Try.sizeOf112
  v45 := Try.zeroValue112
  t46 := Try.underlying113
  a46 := Try.isAgg113
  z46 := Try.sizeOf113
  v46 := Try.zeroValue113
  t50 := Try.underlying101
  a50 := Try.isAgg101
  z50 := Try.sizeOf101
  v50 := Try.zeroValue101
  t53 := Try.underlying119
  a53 := Try.isAgg119
  z53 := Try.sizeOf119
  v53 := Try.zeroValue119
  t55 := Try.underlying121
  a55 := Try.isAgg121
  z55 := Try.sizeOf121
  v55 := Try.zeroValue121
  t66 := Try.underlying122
  a66 := Try.isAgg122
  z66 := Try.sizeOf122
  v66 := Try.zeroValue122
  t70 := Try.underlying126
  a70 := Try.isAgg126
  z70 := Try.sizeOf126
  v70 := Try.zeroValue126
  t76 := Try.underlying128
  a76 := Try.isAgg128
  z76 := Try.sizeOf128
  v76 := Try.zeroValue128
  t77 := Try.underlying129
  a77 := Try.isAgg129
  z77 := Try.sizeOf129
  v77 := Try.zeroValue129 }
end Go.Proofs
namespace VeT
section
open Go Go.Proofs Go.RowKit Go.Lib
set_option maxHeartbeats 2000000 in
set_option maxRecDepth 100000 in
theorem mark30_walk (b n c : Nat) (A : Option Addr) (hA : 0 < n → A = some ⟨b, 0, none⟩) (hnc : n ≤ c) (hn : n ≤ 9223372036854775807) (Inv : Nat → Int → World → Prop) (k : Int) (w : World) (h0 : Inv 0 k w)
    (step : ∀ i k' wr, i < n → Inv i k' wr → ∃ u, wr.cell? ⟨b, i, none⟩ = some u ∧ Calls Try.prog 47 #[u, .int .i64 k'] wr fun e w' => ∃ k2, e = .returned (.int .i64 k2) ∧ Inv (i + 1) k2 w') :
    Calls Try.prog 30 #[.slice A n c, .int .i64 k] w fun e w' => ∃ k2, e = .returned (.int .i64 k2) ∧ Inv n k2 w' := by
  go_enter Try.func30, Try.ntmps30
  go_wp2
  go_loopw [1, 5] (fun kv iv wr => ∃ i : Nat, ∃ k' : Int, i ≤ n ∧ iv = .int .i64 i ∧ kv = .int .i64 k' ∧ Inv i k' wr) (fun _ iv _ => n - (RowKit.intOf iv).toNat)
  case atStart => exact ⟨0, k, Nat.zero_le _, rfl, rfl, h0⟩
  case round =>
    obtain ⟨i, k', hi, rfl, rfl, hInv⟩ := hrel
    by_cases hlt : i < n
    · obtain rfl := hA (by omega)
      obtain ⟨u, hu, hcall⟩ := step i k' _ hlt hInv
      go_wp2_with (go_at_call 47; refine hcall.mono ?_; rintro e w' ⟨k2, rfl, hI2⟩)
      go_roundw
      case rel => exact ⟨i + 1, k2, by omega, by simp, rfl, hI2⟩
      case measure => simp [RowKit.intOf]; omega
    · obtain rfl : i = n := by omega
      go_wp2
      go_ret
      exact ⟨k', rfl, hInv⟩
open Ve in
theorem mark30_contract {R : Run} (hR : ∀ args dv, R.r 47 args = some dv → Contract Try.prog ⟨[(false, 1), (false, 1)], [.io true, .imm], oM, [(false, 1)], [], []⟩ 47 args dv) {args : List Dv} {dv : Dv} (h : pMarkSS 47 R args = some dv) :
    Contract Try.prog ⟨[(false, 1), (false, 1)], [.io true, .imm], .cons tI (.cons (.sl tL) .nil), [(false, 1)], [], []⟩ 30 args dv :=
  mark_contract mark30_walk hR h

set_option maxHeartbeats 4000000 in
set_option maxRecDepth 100000 in
theorem mark48_walk (b n c : Nat) (A : Option Addr) (hA : 0 < n → A = some ⟨b, 0, none⟩) (hnc : n ≤ c) (hn : n ≤ 9223372036854775807) (Inv : Nat → Int → World → Prop) (k : Int) (w : World) (h0 : Inv 0 k w)
    (hk : ∀ i k' wr, i < n → Inv i k' wr → 0 ≤ k' ∧ k' ≤ 4611686018427387904)
    (step : ∀ i k' wr, i < n → Inv i k' wr → ∃ v0 v1 v2 u, wr.cell? ⟨b, i * 4, none⟩ = some v0 ∧ wr.cell? ⟨b, i * 4 + 1, none⟩ = some v1 ∧ wr.cell? ⟨b, i * 4 + 2, none⟩ = some v2 ∧ wr.cell? ⟨b, i * 4 + 3, none⟩ = some u ∧
      wr.frozen? ⟨b, i * 4, none⟩ = false ∧ wr.frozen? ⟨b, i * 4 + 1, none⟩ = false ∧ wr.frozen? ⟨b, i * 4 + 2, none⟩ = false ∧
      Calls Try.prog 47 #[u, .int .i64 (k' + 1 + 1 + 1)] (((wr.setCell ⟨b, i * 4, none⟩ (.int .i64 k')).setCell ⟨b, i * 4 + 1, none⟩ (.int .i64 (k' + 1))).setCell ⟨b, i * 4 + 2, none⟩ (.int .i64 (k' + 1 + 1))) fun e w' => ∃ k2, e = .returned (.int .i64 k2) ∧ Inv (i + 1) k2 w') :
    Calls Try.prog 48 #[.slice A n c, .int .i64 k] w fun e w' => ∃ k2, e = .returned (.int .i64 k2) ∧ Inv n k2 w' := by
  go_enter Try.func48, Try.ntmps48
  go_wp2
  go_loopw [1, 5] (fun kv iv wr => ∃ i : Nat, ∃ k' : Int, i ≤ n ∧ iv = .int .i64 i ∧ kv = .int .i64 k' ∧ Inv i k' wr) (fun _ iv _ => n - (RowKit.intOf iv).toNat)
  case atStart => exact ⟨0, k, Nat.zero_le _, rfl, rfl, h0⟩
  case round =>
    obtain ⟨i, k', hi, rfl, rfl, hInv⟩ := hrel
    by_cases hlt : i < n
    · obtain rfl := hA (by omega)
      obtain ⟨v0, v1, v2, u, c0, c1, c2, c3, f0, f1, f2, hcall⟩ := step i k' _ hlt hInv
      have hkb := hk i k' _ hlt hInv
      have w1 : wrap64 (k' + 1) = k' + 1 := by unfold wrap64; omega
      have w2 : wrap64 (k' + 1 + 1) = k' + 1 + 1 := by unfold wrap64; omega
      have w3 : wrap64 (k' + 1 + 1 + 1) = k' + 1 + 1 + 1 := by unfold wrap64; omega
      go_wp2_with (go_at_call 47; refine hcall.mono ?_; rintro e w' ⟨k2, rfl, hI2⟩)
      go_roundw
      case rel => exact ⟨i + 1, k2, by omega, by simp, rfl, hI2⟩
      case measure => simp [RowKit.intOf]; omega
    · obtain rfl : i = n := by omega
      go_wp2
      go_ret
      exact ⟨k', rfl, hInv⟩
open Ve in
theorem mark48_contract {R : Run} (hR : ∀ args dv, R.r 47 args = some dv → Contract Try.prog ⟨[(false, 1), (false, 1)], [.io true, .imm], oM, [(false, 1)], [], []⟩ 47 args dv) {args : List Dv} {dv : Dv} (h : pMarkMS 47 R args = some dv) :
    Contract Try.prog ⟨[(false, 1), (false, 1)], [.io true, .imm], .cons tI (.cons (.sl tM) .nil), [(false, 1)], [], []⟩ 48 args dv :=
  markM_contract mark48_walk hR h

open Ve in
theorem sortf66_contract {R : Run} (hR : ∀ args dv, R.r 60 args = some dv → Contract Try.prog ⟨[(false, 1), (false, 1)], [], .cons tI .nil, [(false, 1)], [], []⟩ 60 args dv) {args : List Dv} {dv : Dv} (h : pSortF 60 R args = some dv) :
    Contract Try.prog ⟨[(false, 1), (false, 1)], [.io true, .imm], .cons tLL .nil, [], [], []⟩ 66 args dv :=
  sortF_contract (fun enc h1c cf hO blk cap d w a b c e => Any.slices_SortFunc Try.sortf66 enc h1c cf hO 60 #[] blk 0 cap d w (enters_of Try.func60 (by kernel_rfl) rfl) a b c e)
    (fun A cap fv w => (AnyF.slices_SortFunc_none { Try.sortf66 with } A cap fv w).mono fun e w' ⟨h, hw⟩ => ⟨h, by rw [hw], by rw [hw]; exact Kin.refl _⟩) hR h

set_option maxHeartbeats 4000000 in
set_option maxRecDepth 100000 in
theorem compf67_walk (b n c : Nat) (hn2 : 2 ≤ n) (hnc : n ≤ c) (hn : n ≤ 4611686018427387904) (Inv : Nat → World → Prop) (w : World) (h0 : Inv 1 w) (hd : ∀ k w', Inv k w' → Inv k w'.drew)
    (step : ∀ k w', 1 ≤ k → k < n → Inv k w' → ∃ u v, w'.cell? ⟨b, k, none⟩ = some u ∧ w'.cell? ⟨b, k - 1, none⟩ = some v ∧ Calls Try.prog 68 #[u, v] w' fun e w'' => e = .returned (.bool false) ∧ Inv (k + 1) w'') :
    Calls Try.prog 67 #[.slice (some ⟨b, 0, none⟩) n c, .func (.func 68) #[] #[]] w fun e w' => e = .returned (.slice (some ⟨b, 0, none⟩) n c) ∧ Inv n w' := by
  have h1 : ¬ ((n : Int) < 2) := by omega
  go_enter Try.func67, Try.ntmps67
  go_wp2
  go_loopw [5] (fun kv wr => ∃ k : Nat, 1 ≤ k ∧ k ≤ n ∧ kv = .int .i64 k ∧ Inv k wr) (fun kv _ => n - (RowKit.intOf kv).toNat)
  case atStart => exact ⟨1, Nat.le_refl _, by omega, rfl, h0⟩
  case round =>
    obtain ⟨k, hk1, hkn, rfl, hInv⟩ := hrel
    by_cases hlt : k < n
    · have hI2 := hd _ _ hInv
      obtain ⟨u, v, hu, hv, hcall⟩ := step k _ hk1 hlt hI2
      go_wp2
      have hw : IntKind.i64.wrap ((k : Int) - 1) = ((k - 1 : Nat) : Int) := by first | go_num | (simp [IntKind.wrap, IntKind.bits]; omega)
      go_region_with (go_at_call 68; refine (hcall).mono ?_; rintro e w' ⟨rfl, hI3⟩)
      all_goals (go_wp2; go_roundw)
      all_goals first
        | exact ⟨k + 1, by omega, by omega, by simp, hI3⟩
        | (simp [RowKit.intOf]; omega)
    · obtain rfl : k = n := by omega
      go_wp2
      go_ret
      exact ⟨rfl, hInv⟩
theorem compf67_short (A : Option Addr) (n c : Nat) (hn2 : n < 2) (fv : Value) (w : World) :
    Calls Try.prog 67 #[.slice A n c, fv] w fun e w' => e = .returned (.slice A n c) ∧ w' = w := by
  have h1 : (n : Int) < 2 := by omega
  go_enter Try.func67, Try.ntmps67
  go_wp2
  go_ret
  exact ⟨rfl, rfl⟩
open Ve in
theorem compf67_contract {R : Run} (hR : ∀ args dv, R.r 68 args = some dv → Contract Try.prog ⟨[(false, 1), (false, 1)], [], .cons .bool .nil, [(false, 1)], [], []⟩ 68 args dv) {args : List Dv} {dv : Dv} (h : pCompF 68 R args = some dv) :
    Contract Try.prog ⟨[(false, 1), (false, 1)], [.take true, .imm], .cons tLL .nil, [(false, 1)], [.deep], []⟩ 67 args dv :=
  compF_contract compf67_walk compf67_short hR h

set_option maxHeartbeats 2000000 in
set_option maxRecDepth 100000 in
theorem grow103_room (base : Option Addr) (l c n : Nat) (w : World) (hlc : l ≤ c) (hc63 : c ≤ 9223372036854775807) (hn63 : n ≤ 9223372036854775807) (hroom : l + n ≤ c) :
    Calls Try.prog 103 #[.slice base l c, .int .i64 n] w fun e w' => e = .returned (.slice base l c) ∧ w' = w := by
  have h1 : ¬ ((n : Int) < 0) := by omega
  have h2 : wrap64 ((c : Int) - (l : Int)) = (c : Int) - (l : Int) := by unfold wrap64; omega
  have h3 : wrap64 ((n : Int) - ((c : Int) - (l : Int))) = (n : Int) - ((c : Int) - (l : Int)) := by unfold wrap64; omega
  have h4 : ¬ ((n : Int) - ((c : Int) - (l : Int)) > 0) := by omega
  go_enter Try.func103, Try.ntmps103
  go_wp2
  go_ret
  exact ⟨rfl, rfl⟩

set_option maxHeartbeats 4000000 in
set_option maxRecDepth 100000 in
theorem grow103_grow (i0 : TypeInfo) (z : Value) (hi0 : Try.prog.info? 2 = some i0) (hz0 : i0.zero = some z) (hs0 : 0 < i0.size)
    (base : Option Addr) (l c n : Nat) (cs : List Value) (w : World) (hlc : l ≤ c) (hroom : c < l + n) (hbig : (l + n) * i0.bytes ≤ 140737488355328) (h63 : l + n ≤ 4611686018427387904)
    (hcl : cs.length = c * i0.size) (hnil : base = none → c = 0) (hcs : ∀ a, base = some a → ∀ (j : Nat) v, cs[j]? = some v → w.cell? (a.add j) = some v) :
    Calls Try.prog 103 #[.slice base l c, .int .i64 n] w fun e w' =>
      e = .returned (.slice (some ⟨w.heap.size, 0, none⟩) l (grownCap w (l + n) c 2)) ∧
      w' = w.drew.alloc (.cells (cs.toArray ++ Builtin.zeroCells z.cells (l + n - c) ++ Builtin.zeroCells z.cells (grownCap w (l + n) c 2 - (l + n))) 2) := by
  have h1 : ¬ ((n : Int) < 0) := by omega
  have h2 : wrap64 ((c : Int) - (l : Int)) = (c : Int) - (l : Int) := by unfold wrap64; omega
  have h3 : wrap64 ((n : Int) - ((c : Int) - (l : Int))) = (n : Int) - ((c : Int) - (l : Int)) := by unfold wrap64; omega
  have h4 : (n : Int) - ((c : Int) - (l : Int)) > 0 := by omega
  have z25 : ∀ w, (Go.sizeOf 2).run Try.prog w = .ok i0.size w := fun w => by simp [Go.sizeOf, typeInfo, hi0]
  have hck : c + (l + n - c) = l + n := by omega
  have hold : (Builtin.firstCells i0.size c (.slice base c c)).run Try.prog w.drew = .ok cs.toArray w.drew := by
    cases base with
    | none =>
      have h0 := hnil rfl
      subst h0
      have hc0 : cs = [] := List.length_eq_zero_iff.1 (by simpa using hcl)
      rw [hc0]
      exact run_firstCells_none w.drew i0.size 0 0 0
    | some a => exact run_firstCells_some w.drew i0.size c a c c cs hcl (fun j v hj => hcs a rfl j v hj)
  have hrz : ∀ ty, (Builtin.append_ #[36, 3] ty #[.slice base c c, .int .i64 ((n : Int) - ((c : Int) - (l : Int)))]).run Try.prog w =
      .ok (.slice (some ⟨w.heap.size, 0, none⟩) (l + n) (grownCap w (l + n) c 2)) (w.drew.alloc (.cells (cs.toArray ++ Builtin.zeroCells z.cells (l + n - c) ++ Builtin.zeroCells z.cells (grownCap w (l + n) c 2 - (l + n))) 2)) := fun ty => by
    have h := Lib.run_append_grow_zeros w 36 3 ty 2 i0 z .i64 .i64 Try.underlying36 Try.underlying3 hi0 hz0 base c c cs hold (l + n - c) (by omega) hs0 (by omega) (by omega)
      (by have : (l + n - c) * i0.bytes ≤ (l + n) * i0.bytes := Nat.mul_le_mul_right _ (by omega)
          omega)
      (by rw [hck]; exact growslice_fits hroom hbig)
    rw [hck] at h
    rw [show (n : Int) - ((c : Int) - (l : Int)) = ((l + n - c : Nat) : Int) by omega]
    exact h
  have hGn : l + n ≤ grownCap w (l + n) c 2 := grownCap_ge w _ _ _
  obtain ⟨G, hG⟩ : ∃ G, G = grownCap w (l + n) c 2 := ⟨_, rfl⟩
  rw [← hG] at hrz hGn ⊢
  have hG63 : G ≤ 9223372036854775807 := by
    have := grownCap_le_maxLen w (l + n) c 2 (by unfold maxLen; omega)
    rw [← hG] at this
    unfold maxLen at this
    omega
  clear hold hck hG hcs hcl
  go_enter Try.func103, Try.ntmps103
  cases base with
  | none =>
    have h0 := hnil rfl
    subst h0
    obtain rfl : l = 0 := by omega
    go_wp2_with (at_builtin; refine Lib.wpList_append_run _ rfl _ _ _ _ rfl _ _ rfl rfl _ _ (hrz _) ?_)
    all_goals (go_ret; exact ⟨rfl, rfl⟩)
  | some a =>
    obtain ⟨ab, ao, asp⟩ := a
    go_wp2_with (at_builtin; refine Lib.wpList_append_run _ rfl _ _ _ _ rfl _ _ rfl rfl _ _ (hrz _) ?_)
    all_goals (go_ret; exact ⟨rfl, rfl⟩)
theorem grow103_info : (Try.prog.info? 2).any (fun i => i.size == Ve.Ty.size yI && i.zero.any (fun z => z.cells.size == Ve.Ty.size yI) && decide (i.bytes ≤ 64 * Ve.Ty.size yI) && decide (0 < i.bytes) && decide (0 < Ve.Ty.size yI)) = true := by kernel_rfl
open Ve in
theorem grow103_contract (R : Run) {args : List Dv} {dv : Dv} (h : pGrow yI R args = some dv) :
    Contract Try.prog ⟨[(false, 1), (false, 1)], [.take true, .imm], .cons yL .nil, [(false, 1)], [.deep], []⟩ 103 args dv := by
  have hi := grow103_info
  cases hi0 : Try.prog.info? 2 with
  | none => rw [hi0] at hi; cases hi
  | some i0 =>
    rw [hi0] at hi
    simp only [Option.any_some, Bool.and_eq_true, decide_eq_true_eq, beq_iff_eq] at hi
    obtain ⟨⟨⟨⟨h1, h2⟩, h3⟩, h4⟩, h5⟩ := hi
    cases hz : i0.zero with
    | none => rw [hz] at h2; cases h2
    | some z =>
      rw [hz] at h2
      exact grow_contract h1 (by simpa using h2) h5 h3 h4 grow103_room (fun base l c n cs w a1 a2 a3 a4 a5 a6 a7 => grow103_grow i0 z hi0 hz (by rw [h1]; exact h5) base l c n cs w a1 a2 a3 a4 a5 a6 a7) R h

end
section
open Go Ve
theorem primL_eq : primL = (List.range 139).map fun i => bif Nat.beq i 30 then some (pMarkSS n_Z44) else bif Nat.beq i 48 then some (pMarkMS n_Z44) else bif Nat.beq i 66 then some (pSortF n_Z13) else bif Nat.beq i 67 then some (pCompF n_Z64) else bif Nat.beq i 103 then some (pGrow yI) else none := by kernel_rfl
theorem prims_ok : ∀ f p, E.prim f = some p → ∀ r, RunOk E (mkR r) → ∀ args dv sg, E.sig f = some sg → p (mkR r) args = some dv → Contract E.P sg f args dv := by
  intro f p hp r hr args dv sg hsg h
  have hp : primL.getD f none = some p := hp
  rw [primL_eq, List.getD_eq_getElem?_getD, List.getElem?_map] at hp
  by_cases hf : f < 139
  · rw [List.getElem?_range hf] at hp
    simp only [Option.map_some, Option.getD_some] at hp
    by_cases h30 : f = 30
    · subst h30
      obtain rfl : (pMarkSS n_Z44) = p := Option.some.inj hp
      obtain rfl : sg_Z45 = sg := Option.some.inj (sig_laws_markInt64SS_eq.symm.trans hsg)
      exact mark30_contract (fun args dv h => hr _ args dv _ sig_laws_markInt64S_eq h) h
    rw [show Nat.beq f 30 = false from Bool.eq_false_iff.2 fun h => h30 (Nat.eq_of_beq_eq_true h), cond_false] at hp
    by_cases h48 : f = 48
    · subst h48
      obtain rfl : (pMarkMS n_Z44) = p := Option.some.inj hp
      obtain rfl : sg_Z46 = sg := Option.some.inj (sig_laws_markMatrixS_eq.symm.trans hsg)
      exact mark48_contract (fun args dv h => hr _ args dv _ sig_laws_markInt64S_eq h) h
    rw [show Nat.beq f 48 = false from Bool.eq_false_iff.2 fun h => h48 (Nat.eq_of_beq_eq_true h), cond_false] at hp
    by_cases h66 : f = 66
    · subst h66
      obtain rfl : (pSortF n_Z13) = p := Option.some.inj hp
      obtain rfl : sg_Z70 = sg := Option.some.inj (sig_slices_SortFunc_SSint64_Sint64_eq.symm.trans hsg)
      exact sortf66_contract (fun args dv h => hr _ args dv _ sig_impl_compareSimplices_eq h) h
    rw [show Nat.beq f 66 = false from Bool.eq_false_iff.2 fun h => h66 (Nat.eq_of_beq_eq_true h), cond_false] at hp
    by_cases h67 : f = 67
    · subst h67
      obtain rfl : (pCompF n_Z64) = p := Option.some.inj hp
      obtain rfl : sg_Z57 = sg := Option.some.inj (sig_slices_CompactFunc_SSint64_Sint64_eq.symm.trans hsg)
      exact compf67_contract (fun args dv h => hr _ args dv _ sig_slices_Equal_Sint64_int64_eq h) h
    rw [show Nat.beq f 67 = false from Bool.eq_false_iff.2 fun h => h67 (Nat.eq_of_beq_eq_true h), cond_false] at hp
    by_cases h103 : f = 103
    · subst h103
      obtain rfl : (pGrow yI) = p := Option.some.inj hp
      obtain rfl : sg_Z65 = sg := Option.some.inj (sig_slices_Grow_Sint64_int64_eq.symm.trans hsg)
      exact grow103_contract _ h
    rw [show Nat.beq f 103 = false from Bool.eq_false_iff.2 fun h => h103 (Nat.eq_of_beq_eq_true h), cond_false] at hp
    cases hp
  · rw [List.getElem?_eq_none (by simpa using hf)] at hp
    cases hp
end
end VeT

open Go Go.Proofs Ve
set_option linter.unusedVariables false
set_option linter.unusedSimpArgs false
namespace VeT

theorem szInt64S_ret (x : (List Int)) (l : Int) (hx : Wf yL x) (h0 : 0 ≤ l) (h1 : l ≤ 1048576) :
    ∃ r : Int, Ret E n_Z49 [⟨yL, x⟩, ⟨.int .i64, l⟩] ⟨o_Z49, (r, ())⟩ ∧ (0 ≤ r → r ≤ l ∧ Sm yL x) := by
  have hx1 : x.length ≤ maxLen := hx.1
  rw [maxLen_eq] at hx1
  have hw : w64 (l - x.length) = l - x.length := w64_small (by omega) (by omega)
  by_cases hc : l - (x.length : Int) < 0
  · refine ⟨-1, Evt.succ (Evt.of fun n => ?_), fun h => by omega⟩
    rw [run_Z49, Z49.ev, hw, decide_eq_true hc]; rfl
  · refine ⟨l - x.length, Evt.succ (Evt.of fun n => ?_), fun h => ⟨by omega, by omega, fun x _ => trivial⟩⟩
    rw [run_Z49, Z49.ev, hw, decide_eq_false hc]; rfl

theorem toInt64S_ret (x : (List Int)) (hx : Sm yL x) : Ret E n_Z52 [⟨yL, x⟩] ⟨o_Z52, (x, ())⟩ := by
  have hx1 : x.length ≤ 1048576 := hx.1
  have hl := fill_loop (a := x) (L := fun m n i o => Z52.l0 (mkR (run E m)) m n x i o) (z := List.replicate (Int.toNat (List.length x : Int)) (0 : Int)) (r := some ⟨o_Z52, (x, ())⟩) (by simp) (fun k o hk ho => by
      refine Evt.of fun m n => ?_
      show Z52.l0 _ _ _ _ _ _ = _
      rw [Z52.l0_succ _ mk_ok, decide_eq_true (show (k : Int) < x.length by omega), cond_true, idx_lt hk]
      simp only [Option.bind_some]
      rw [chk_true (by simp; omega), w64_succ (by omega), Int.toNat_natCast]) (Evt.of fun m n => by
      show Z52.l0 _ _ _ _ _ _ = _
      rw [Z52.l0_succ _ mk_ok, decide_eq_false (by omega), cond_false])
  refine Evt.succ (hl.mono fun n h => ?_)
  rw [run_Z52, Z52.ev, chk_true (by simp; omega)]
  exact h

theorem eqInt64S_ret (x y : (List Int)) (hx : Sm yL x) : ∃ b : Bool, Ret E n_Z33 [⟨yL, x⟩, ⟨yL, y⟩] ⟨o_Z33, (b, ())⟩ ∧ (b = true ↔ x = y) := by
  have hx1 : x.length ≤ 1048576 := hx.1
  by_cases hl : x.length = y.length
  · have hd : ((x.length : Int) != (y.length : Int)) = false := by simp [hl]
    obtain ⟨h1, h2⟩ := same_loop (a := x) (b := y) (L := fun m n i (_ : Unit) => Z33.l0 (mkR (run E m)) m n x y i) (fun u v => u = v) (rt := some ⟨o_Z33, (true, ())⟩) (rf := some ⟨o_Z33, (false, ())⟩) hl.symm
      (fun k h h' hne => Evt.of fun m n => by
      show Z33.l0 _ _ _ _ _ _ = _
      rw [Z33.l0_succ _ mk_ok, decide_eq_true (show (k : Int) < x.length by omega), cond_true, idx_lt h, idx_lt h']
      have : (x[k] != y[k]) = true := by simpa using hne
      simp only [Option.bind_some, this, cond_true])
      (fun k h h' he => Evt.of fun m n => by
      show Z33.l0 _ _ _ _ _ _ = _
      rw [Z33.l0_succ _ mk_ok, decide_eq_true (show (k : Int) < x.length by omega), cond_true, idx_lt h, idx_lt h']
      have : (x[k] != y[k]) = false := by simpa using he
      simp only [Option.bind_some, this, cond_false]
      rw [w64_succ (by omega)])
      (Evt.of fun m n => by
      show Z33.l0 _ _ _ _ _ _ = _
      rw [Z33.l0_succ _ mk_ok, decide_eq_false (by omega), cond_false])
    by_cases he : x = y
    · refine ⟨true, Evt.succ ((h1 (by subst he; intros; rfl)).mono fun n h => ?_), by simp [he]⟩
      rw [run_Z33, Z33.ev, hd, cond_false]
      exact h
    · refine ⟨false, Evt.succ ((h2 fun hh => he (List.ext_getElem hl hh)).mono fun n h => ?_), by simp [he]⟩
      rw [run_Z33, Z33.ev, hd, cond_false]
      exact h
  · have hd : ((x.length : Int) != (y.length : Int)) = true := by simp; omega
    refine ⟨false, Evt.succ (Evt.of fun n => ?_), ⟨fun h => (nomatch h), fun h => absurd (congrArg List.length h) hl⟩⟩
    rw [run_Z33, Z33.ev, hd, cond_true]

theorem szInt64SS_ret (x : vK) (l : Int) (hx : Wf yK x) (h0 : 0 ≤ l) (h1 : l ≤ 1048576) :
    ∃ r : Int, Ret E n_Z50 [⟨yK, x⟩, ⟨.int .i64, l⟩] ⟨o_Z50, (r, ())⟩ ∧ (0 ≤ r → r ≤ l ∧ Sm yK x) := by
  have hx1 : x.length ≤ maxLen := hx.1
  rw [maxLen_eq] at hx1
  have hw : w64 (l - x.length) = l - x.length := w64_small (by omega) (by omega)
  by_cases hc : l - (x.length : Int) < 0
  · refine ⟨-1, Evt.succ (Evt.of fun n => ?_), fun h => by omega⟩
    rw [run_Z50, Z50.ev, hw, decide_eq_true hc]; rfl
  · obtain ⟨r, hr, hs⟩ := sz_loop (xs := x) (L := fun m n i left => Z50.l0 (mkR (run E m)) m n x left i) (ret := fun r => some ⟨o_Z50, (r, ())⟩) (fun x => Sm yL x) (fun k left hk hl0 hl1 => by
      obtain ⟨r, hr, hs⟩ := szInt64S_ret x[k] left (hx.2 _ (List.getElem_mem hk)) hl0 hl1
      refine ⟨r, hs, hr.mono fun m h n => ?_⟩
      show Z50.l0 _ _ _ _ _ _ = _
      rw [Z50.l0_succ _ mk_ok, decide_eq_true (show (k : Int) < x.length by omega), cond_true, idx_lt hk]
      simp only [Option.bind_some, callT_of h]
      rw [w64_succ (by omega)]) (fun left => Evt.of fun m n => by
      show Z50.l0 _ _ _ _ _ _ = _
      rw [Z50.l0_succ _ mk_ok, decide_eq_false (by omega), cond_false]) (l - x.length) (by omega) (by omega)
    refine ⟨r, Evt.succ (hr.mono fun n h => ?_), fun h => ⟨by have := (hs h).1; omega, by omega, (hs h).2⟩⟩
    rw [run_Z50, Z50.ev, hw, decide_eq_false hc]
    exact h

theorem toInt64SS_ret (x : vK) (hx : Sm yK x) : Ret E n_Z53 [⟨yK, x⟩] ⟨o_Z53, (x, ())⟩ := by
  have hx1 : x.length ≤ 1048576 := hx.1
  have hl := fill_loop (a := x) (L := fun m n i o => Z53.l0 (mkR (run E m)) m n x i o) (z := List.replicate (Int.toNat (List.length x : Int)) ([] : List Int)) (r := some ⟨o_Z53, (x, ())⟩) (by simp) (fun k o hk ho => by
      have hr := toInt64S_ret x[k] (hx.2 _ (List.getElem_mem hk))
      refine hr.mono fun m h n => ?_
      show Z53.l0 _ _ _ _ _ _ = _
      rw [Z53.l0_succ _ mk_ok, decide_eq_true (show (k : Int) < x.length by omega), cond_true, idx_lt hk]
      simp only [Option.bind_some, callT_of h]
      rw [chk_true (by simp; omega), w64_succ (by omega), Int.toNat_natCast]) (Evt.of fun m n => by
      show Z53.l0 _ _ _ _ _ _ = _
      rw [Z53.l0_succ _ mk_ok, decide_eq_false (by omega), cond_false])
  refine Evt.succ (hl.mono fun n h => ?_)
  rw [run_Z53, Z53.ev, chk_true (by simp; omega)]
  exact h

theorem eqInt64SS_ret (x y : vK) (hx : Sm yK x) : ∃ b : Bool, Ret E n_Z34 [⟨yK, x⟩, ⟨yK, y⟩] ⟨o_Z34, (b, ())⟩ ∧ (b = true ↔ x = y) := by
  have hx1 : x.length ≤ 1048576 := hx.1
  by_cases hl : x.length = y.length
  · have hd : ((x.length : Int) != (y.length : Int)) = false := by simp [hl]
    obtain ⟨h1, h2⟩ := same_loop (a := x) (b := y) (L := fun m n i (_ : Unit) => Z34.l0 (mkR (run E m)) m n x y i) (fun u v => u = v) (rt := some ⟨o_Z34, (true, ())⟩) (rf := some ⟨o_Z34, (false, ())⟩) hl.symm
      (fun k h h' hne => by
      obtain ⟨b, hb, hbe⟩ := eqInt64S_ret x[k] y[k] (hx.2 _ (List.getElem_mem h))
      have hb0 : b = false := by cases b <;> simp_all
      subst hb0
      refine hb.mono fun m hm n => ?_
      show Z34.l0 _ _ _ _ _ _ = _
      rw [Z34.l0_succ _ mk_ok, decide_eq_true (show (k : Int) < x.length by omega), cond_true, idx_lt h, idx_lt h']
      simp only [Option.bind_some, callT_of hm, Bool.not_false, Bool.not_true, cond_true, cond_false])
      (fun k h h' he => by
      obtain ⟨b, hb, hbe⟩ := eqInt64S_ret x[k] y[k] (hx.2 _ (List.getElem_mem h))
      have hb0 : b = true := by cases b <;> simp_all
      subst hb0
      refine hb.mono fun m hm n => ?_
      show Z34.l0 _ _ _ _ _ _ = _
      rw [Z34.l0_succ _ mk_ok, decide_eq_true (show (k : Int) < x.length by omega), cond_true, idx_lt h, idx_lt h']
      simp only [Option.bind_some, callT_of hm, Bool.not_false, Bool.not_true, cond_true, cond_false]
      rw [w64_succ (by omega)])
      (Evt.of fun m n => by
      show Z34.l0 _ _ _ _ _ _ = _
      rw [Z34.l0_succ _ mk_ok, decide_eq_false (by omega), cond_false])
    by_cases he : x = y
    · refine ⟨true, Evt.succ ((h1 (by subst he; intros; rfl)).mono fun n h => ?_), by simp [he]⟩
      rw [run_Z34, Z34.ev, hd, cond_false]
      exact h
    · refine ⟨false, Evt.succ ((h2 fun hh => he (List.ext_getElem hl hh)).mono fun n h => ?_), by simp [he]⟩
      rw [run_Z34, Z34.ev, hd, cond_false]
      exact h
  · have hd : ((x.length : Int) != (y.length : Int)) = true := by simp; omega
    refine ⟨false, Evt.succ (Evt.of fun n => ?_), ⟨fun h => (nomatch h), fun h => absurd (congrArg List.length h) hl⟩⟩
    rw [run_Z34, Z34.ev, hd, cond_true]

theorem szComplex_ret (x : (vK × Unit)) (l : Int) (hx : Wf (.st (.cons yK .nil)) x) (h0 : 0 ≤ l) (h1 : l ≤ 1048576) :
    ∃ r : Int, Ret E n_Z48 [⟨yK, x.1⟩, ⟨.int .i64, l⟩] ⟨o_Z48, (r, ())⟩ ∧ (0 ≤ r → r ≤ l ∧ Sm (.st (.cons yK .nil)) x) := by
  obtain ⟨r0, hr0, hs0⟩ := szInt64SS_ret x.1 l hx.1 (by omega) (by omega)
  by_cases hc0 : r0 < 0
  · refine ⟨-1, Evt.succ (hr0.mono fun n e0 => ?_), fun h => by omega⟩
    rw [run_Z48, Z48.ev]
    simp only [Option.bind_some, cond_true, cond_false, callT_of e0, decide_eq_true hc0]
  have hb0 := hs0 (by omega)
  refine ⟨r0, Evt.succ (hr0.mono fun n e0 => ?_), fun h => ⟨by omega, ?_⟩⟩
  · skip
    rw [run_Z48, Z48.ev]
    simp only [Option.bind_some, cond_true, cond_false, callT_of e0, decide_eq_false hc0]
  · exact ⟨hb0.2, trivial⟩

theorem toComplex_ret (x : (vK × Unit)) (hx : Sm (.st (.cons yK .nil)) x) : Ret E n_Z51 [⟨yK, x.1⟩] ⟨o_Z51, x⟩ := by
  have hr0 := toInt64SS_ret x.1 hx.1
  refine Evt.succ (hr0.mono fun n e0 => ?_)
  rw [run_Z51, Z51.ev]
  simp only [Option.bind_some, callT_of e0]

theorem eqComplex_ret (x y : (vK × Unit)) (hx : Sm (.st (.cons yK .nil)) x) : ∃ b : Bool, Ret E n_Z32 [⟨yK, x.1⟩, ⟨yK, y.1⟩] ⟨o_Z32, (b, ())⟩ ∧ (b = true ↔ x = y) := by
  obtain ⟨b0, hr0, hb0⟩ := eqInt64SS_ret x.1 y.1 hx.1
  refine ⟨b0, Evt.succ (hr0.mono fun n e0 => ?_), ?_⟩
  · skip
    rw [run_Z32, Z32.ev]
    simp only [Option.bind_some, callT_of e0]
    clear hx hr0 e0 hb0
    cases b0 <;> rfl
  · obtain ⟨x0, _⟩ := x
    obtain ⟨y0, _⟩ := y
    simp only [Bool.and_eq_true, decide_eq_true_eq, hb0, Prod.mk.injEq, and_true]
    try simp only [and_assoc]

theorem eqMatrix_ret (x y : vM) (hx : Sm (.st yM) x) : ∃ b : Bool, Ret E n_Z35 [⟨yI, x.1⟩, ⟨yI, x.2.1⟩, ⟨yI, x.2.2.1⟩, ⟨yL, x.2.2.2.1⟩, ⟨yI, y.1⟩, ⟨yI, y.2.1⟩, ⟨yI, y.2.2.1⟩, ⟨yL, y.2.2.2.1⟩] ⟨o_Z35, (b, ())⟩ ∧ (b = true ↔ x = y) := by
  obtain ⟨b0, hr0, hb0⟩ := eqInt64S_ret x.2.2.2.1 y.2.2.2.1 hx.2.2.2.1
  refine ⟨decide (x.1 = y.1) && decide (x.2.1 = y.2.1) && decide (x.2.2.1 = y.2.2.1) && b0, Evt.succ (hr0.mono fun n e0 => ?_), ?_⟩
  · skip
    rw [run_Z35, Z35.ev]
    simp only [Option.bind_some, callT_of e0]
    simp only [show (x.1 != y.1) = !decide (x.1 = y.1) from rfl]
    generalize decide (x.1 = y.1) = d0
    simp only [show (x.2.1 != y.2.1) = !decide (x.2.1 = y.2.1) from rfl]
    generalize decide (x.2.1 = y.2.1) = d1
    simp only [show (x.2.2.1 != y.2.2.1) = !decide (x.2.2.1 = y.2.2.1) from rfl]
    generalize decide (x.2.2.1 = y.2.2.1) = d2
    clear hx hr0 e0 hb0
    cases d0 <;> cases d1 <;> cases d2 <;> cases b0 <;> rfl
  · obtain ⟨x0, x1, x2, x3, _⟩ := x
    obtain ⟨y0, y1, y2, y3, _⟩ := y
    simp only [Bool.and_eq_true, decide_eq_true_eq, hb0, Prod.mk.injEq, and_true]
    try simp only [and_assoc]

theorem eqMatrixS_ret (x y : vN) (hx : Sm yN x) : ∃ b : Bool, Ret E n_Z36 [⟨yN, x⟩, ⟨yN, y⟩] ⟨o_Z36, (b, ())⟩ ∧ (b = true ↔ x = y) := by
  have hx1 : x.length ≤ 1048576 := hx.1
  by_cases hl : x.length = y.length
  · have hd : ((x.length : Int) != (y.length : Int)) = false := by simp [hl]
    obtain ⟨h1, h2⟩ := same_loop (a := x) (b := y) (L := fun m n i (_ : Unit) => Z36.l0 (mkR (run E m)) m n x y i) (fun u v => u = v) (rt := some ⟨o_Z36, (true, ())⟩) (rf := some ⟨o_Z36, (false, ())⟩) hl.symm
      (fun k h h' hne => by
      obtain ⟨b, hb, hbe⟩ := eqMatrix_ret x[k] y[k] (hx.2 _ (List.getElem_mem h))
      have hb0 : b = false := by cases b <;> simp_all
      subst hb0
      refine hb.mono fun m hm n => ?_
      show Z36.l0 _ _ _ _ _ _ = _
      rw [Z36.l0_succ _ mk_ok, decide_eq_true (show (k : Int) < x.length by omega), cond_true, idx_lt h, idx_lt h']
      simp only [Option.bind_some, callT_of hm, Bool.not_false, Bool.not_true, cond_true, cond_false])
      (fun k h h' he => by
      obtain ⟨b, hb, hbe⟩ := eqMatrix_ret x[k] y[k] (hx.2 _ (List.getElem_mem h))
      have hb0 : b = true := by cases b <;> simp_all
      subst hb0
      refine hb.mono fun m hm n => ?_
      show Z36.l0 _ _ _ _ _ _ = _
      rw [Z36.l0_succ _ mk_ok, decide_eq_true (show (k : Int) < x.length by omega), cond_true, idx_lt h, idx_lt h']
      simp only [Option.bind_some, callT_of hm, Bool.not_false, Bool.not_true, cond_true, cond_false]
      rw [w64_succ (by omega)])
      (Evt.of fun m n => by
      show Z36.l0 _ _ _ _ _ _ = _
      rw [Z36.l0_succ _ mk_ok, decide_eq_false (by omega), cond_false])
    by_cases he : x = y
    · refine ⟨true, Evt.succ ((h1 (by subst he; intros; rfl)).mono fun n h => ?_), by simp [he]⟩
      rw [run_Z36, Z36.ev, hd, cond_false]
      exact h
    · refine ⟨false, Evt.succ ((h2 fun hh => he (List.ext_getElem hl hh)).mono fun n h => ?_), by simp [he]⟩
      rw [run_Z36, Z36.ev, hd, cond_false]
      exact h
  · have hd : ((x.length : Int) != (y.length : Int)) = true := by simp; omega
    refine ⟨false, Evt.succ (Evt.of fun n => ?_), ⟨fun h => (nomatch h), fun h => absurd (congrArg List.length h) hl⟩⟩
    rw [run_Z36, Z36.ev, hd, cond_true]

theorem eqSheaf_ret (x y : vS) (hx : Sm (.st yS) x) : ∃ b : Bool, Ret E n_Z37 [⟨yK, x.1⟩, ⟨yI, x.2.1⟩, ⟨yL, x.2.2.1⟩, ⟨yN, x.2.2.2.1⟩, ⟨yK, y.1⟩, ⟨yI, y.2.1⟩, ⟨yL, y.2.2.1⟩, ⟨yN, y.2.2.2.1⟩] ⟨o_Z37, (b, ())⟩ ∧ (b = true ↔ x = y) := by
  obtain ⟨b0, hr0, hb0⟩ := eqComplex_ret (x.1, ()) (y.1, ()) ⟨hx.1, trivial⟩
  obtain ⟨b1, hr1, hb1⟩ := eqInt64S_ret x.2.2.1 y.2.2.1 hx.2.2.1
  obtain ⟨b2, hr2, hb2⟩ := eqMatrixS_ret x.2.2.2.1 y.2.2.2.1 hx.2.2.2.1
  refine ⟨b0 && decide (x.2.1 = y.2.1) && b1 && b2, Evt.succ (((hr0.and hr1).and hr2).mono fun n hh => ?_), ?_⟩
  · obtain ⟨⟨e0, e1⟩, e2⟩ := hh
    rw [run_Z37, Z37.ev]
    simp only [Option.bind_some, callT_of e0, callT_of e1, callT_of e2]
    simp only [show (x.2.1 != y.2.1) = !decide (x.2.1 = y.2.1) from rfl]
    generalize decide (x.2.1 = y.2.1) = d1
    clear hx hr0 e0 hb0 hr1 e1 hb1 hr2 e2 hb2
    cases b0 <;> cases d1 <;> cases b1 <;> cases b2 <;> rfl
  · obtain ⟨x0, x1, x2, x3, _⟩ := x
    obtain ⟨y0, y1, y2, y3, _⟩ := y
    simp only [Bool.and_eq_true, decide_eq_true_eq, hb0, hb1, hb2, Prod.mk.injEq, and_true]
    try simp only [and_assoc]

end VeT

open Go Go.Proofs Ve
set_option linter.unusedVariables false
set_option linter.unusedSimpArgs false
namespace VeT

theorem IndexFunc_SSint64_Sint64_impl_ValidComplex_1_ret (s : List (List Int)) (c : ((vK × Unit) × (Int × Unit) × Unit)) (p : (List Int) → Bool) (hs : s.length ≤ 1048576) (hp : ∀ x ∈ s, Ret E n_Z8 [⟨yL, x⟩, ⟨(.ptr (.cons yK .nil)), c.1⟩, ⟨(.ptr (.cons yI .nil)), c.2.1⟩] ⟨o_Z8, (p x, ())⟩) :
    Ret E n_Z66 [⟨yK, s⟩, ⟨(.fn n_Z8 (.cons (.ptr (.cons yK .nil)) (.cons (.ptr (.cons yI .nil)) .nil))), c⟩] ⟨o_Z66, (idxf p s, ())⟩ := by
  obtain ⟨o, h1, h2, h3⟩ := find_loop 1 (L := fun φ n k => Z67.l0 (mkR (run E (φ 0))) (φ 0) n s c (s.length : Int) k) (len := s.length) (fun k => ∃ h : k < s.length, p s[k] = true) (fun o => some ⟨o_Z66, (o2i o, ())⟩) (fun _ _ _ _ => rfl) (fun k hk hP => by
      obtain ⟨_, hP⟩ := hP
      simp only [Z67.l0_succ _ mk_ok]
      refine ev_t (decide_eq_true (by omega)) (ev_bind (idx_lt hk) (ev_call (hp _ (List.getElem_mem hk)) (ev_t hP ev_rfl)))) (fun k q hk hP ih => by
      simp only [Z67.l0_succ _ mk_ok]
      refine ev_t (decide_eq_true (by omega)) (ev_bind (idx_lt hk) (ev_call (hp _ (List.getElem_mem hk)) (ev_f (Bool.eq_false_iff.2 fun h => hP ⟨hk, h⟩) ?_)))
      rw [w64_succ (by omega)]; exact ih) (by
      simp only [Z67.l0_succ _ mk_ok]
      exact ev_f (decide_eq_false (by omega)) ev_rfl)
  rw [idxf_of h1 h2] at h3
  refine ret_of ?_
  simp only [run_Z66, Z67.ev]
  exact Ev.start (p := fun φ n => Z67.l0 (mkR (run E (φ 0))) (φ 0) n s c (s.length : Int) 0 = _) 1 h3 (fun _ _ _ h => h)

theorem IndexFunc_Sint64_int64_impl_ValidSimplex_1_ret (s : List Int) (p : Int → Bool) (hs : s.length ≤ 1048576) (hp : ∀ x ∈ s, Ret E n_Z11 [⟨yI, x⟩] ⟨o_Z11, (p x, ())⟩) :
    Ret E n_Z68 [⟨yL, s⟩, ⟨(.fn n_Z11 .nil), ()⟩] ⟨o_Z68, (idxf p s, ())⟩ := by
  obtain ⟨o, h1, h2, h3⟩ := find_loop 1 (L := fun φ n k => Z69.l0 (mkR (run E (φ 0))) (φ 0) n s (s.length : Int) k) (len := s.length) (fun k => ∃ h : k < s.length, p s[k] = true) (fun o => some ⟨o_Z68, (o2i o, ())⟩) (fun _ _ _ _ => rfl) (fun k hk hP => by
      obtain ⟨_, hP⟩ := hP
      simp only [Z69.l0_succ _ mk_ok]
      refine ev_t (decide_eq_true (by omega)) (ev_bind (idx_lt hk) (ev_call (hp _ (List.getElem_mem hk)) (ev_t hP ev_rfl)))) (fun k q hk hP ih => by
      simp only [Z69.l0_succ _ mk_ok]
      refine ev_t (decide_eq_true (by omega)) (ev_bind (idx_lt hk) (ev_call (hp _ (List.getElem_mem hk)) (ev_f (Bool.eq_false_iff.2 fun h => hP ⟨hk, h⟩) ?_)))
      rw [w64_succ (by omega)]; exact ih) (by
      simp only [Z69.l0_succ _ mk_ok]
      exact ev_f (decide_eq_false (by omega)) ev_rfl)
  rw [idxf_of h1 h2] at h3
  refine ret_of ?_
  simp only [run_Z68, Z69.ev]
  exact Ev.start (p := fun φ n => Z69.l0 (mkR (run E (φ 0))) (φ 0) n s (s.length : Int) 0 = _) 1 h3 (fun _ _ _ h => h)

theorem ContainsFunc_SSint64_Sint64_impl_ValidComplex_1_ret (s : List (List Int)) (c : ((vK × Unit) × (Int × Unit) × Unit)) (p : (List Int) → Bool) (hs : s.length ≤ 1048576) (hp : ∀ x ∈ s, Ret E n_Z8 [⟨yL, x⟩, ⟨(.ptr (.cons yK .nil)), c.1⟩, ⟨(.ptr (.cons yI .nil)), c.2.1⟩] ⟨o_Z8, (p x, ())⟩) :
    Ret E n_Z60 [⟨yK, s⟩, ⟨(.fn n_Z8 (.cons (.ptr (.cons yK .nil)) (.cons (.ptr (.cons yI .nil)) .nil))), c⟩] ⟨o_Z60, (pb (∃ x ∈ s, p x = true), ())⟩ := by
  refine ret_of ?_
  simp only [run_Z60, Z61.ev]
  refine ev_call (IndexFunc_SSint64_Sint64_impl_ValidComplex_1_ret s c p hs hp) (ev_some ?_)
  simp only [ge_iff_le, pb_dec, pb_congr idxf_nonneg]

theorem ContainsFunc_Sint64_int64_impl_ValidSimplex_1_ret (s : List Int) (p : Int → Bool) (hs : s.length ≤ 1048576) (hp : ∀ x ∈ s, Ret E n_Z11 [⟨yI, x⟩] ⟨o_Z11, (p x, ())⟩) :
    Ret E n_Z62 [⟨yL, s⟩, ⟨(.fn n_Z11 .nil), ()⟩] ⟨o_Z62, (pb (∃ x ∈ s, p x = true), ())⟩ := by
  refine ret_of ?_
  simp only [run_Z62, Z63.ev]
  refine ev_call (IndexFunc_Sint64_int64_impl_ValidSimplex_1_ret s p hs hp) (ev_some ?_)
  simp only [ge_iff_le, pb_dec, pb_congr idxf_nonneg]

theorem filled_impl_zero_1_ret (p : Int) (R C : Nat) (f : Nat → Nat → Int) (hR : R ≤ 1048576) (hC : C ≤ 1048576) (hRC : R * C ≤ 1048576) (hf : ∀ i j : Nat, i < R → j < C → Ret E n_Z30 [⟨yI, (i : Int)⟩, ⟨yI, (j : Int)⟩] ⟨o_Z30, (f i j, ())⟩) :
    Ret E n_Z19 [⟨yI, p⟩, ⟨yI, (R : Int)⟩, ⟨yI, (C : Int)⟩, ⟨(.fn n_Z30 .nil), ()⟩] ⟨o_Z19, (p, (R : Int), (C : Int), flatF f C R, ())⟩ := by
  refine ret_of ?_
  simp only [run_Z19, Z20.ev]
  refine Ev.start (p := fun φ n => Z20.l0 (mkR (run E (φ 0))) (φ 0) n (C : Int) (R : Int) 0 0 0 0 p (R : Int) (C : Int) [] = _) 1 ?_ (fun _ _ _ h => h)
  refine fold_loop 1 (L := fun φ n k a => Z20.l0 (mkR (run E (φ 0))) (φ 0) n (C : Int) (R : Int) k 0 0 0 p (R : Int) (C : Int) a) (len := R) (fun k => flatF f C k) (fun _ _ _ _ _ => rfl) (fun k r hk ih => ?_) ?_
  · simp only [Z20.l0_succ _ mk_ok]
    refine ev_t (decide_eq_true (by omega)) ?_
    refine Ev.start (p := fun φ n => Z20.l1 (mkR (run E (φ 0))) (φ 0) (φ 1) n (C : Int) (k : Int) (R : Int) (k : Int) (C : Int) 0 0 0 0 p (R : Int) (C : Int) (flatF f C k) = _) 2 ?_ (fun _ _ _ h => h)
    have hle : (k + 1) * C ≤ R * C := Nat.mul_le_mul_right _ hk
    rw [Nat.add_mul] at hle
    have := fold_loop 2 (L := fun φ n j a => Z20.l1 (mkR (run E (φ 0))) (φ 0) (φ 1) n (C : Int) (k : Int) (R : Int) (k : Int) (C : Int) j 0 0 0 p (R : Int) (C : Int) a) (len := C) (fun j => flatF f C k ++ (List.range j).map (f k)) (r := r) (fun _ _ _ _ _ => rfl) (fun j r hj ih => ?_) ?_
    · simpa using this
    · simp only [Z20.l1_succ _ mk_ok]
      rw [List.range_succ, List.map_append, ← List.append_assoc] at ih
      refine ev_t (decide_eq_true (by omega)) (ev_call (hf k j hk hj) (ev_chk (by simp [flatF_length]; omega) ?_))
      rw [w64_succ (by omega)]; exact ih
    · simp only [Z20.l1_succ _ mk_ok]
      refine ev_f (decide_eq_false (by omega)) ?_
      rw [w64_succ (by omega)]; exact ih
  · simp only [Z20.l0_succ _ mk_ok]
    exact ev_f (decide_eq_false (by omega)) ev_rfl

end VeT

open Go Go.Proofs Ve
set_option linter.unusedVariables false
set_option linter.unusedSimpArgs false
namespace VeT

abbrev cM : Ty := .cons yI (.cons yI (.cons yI (.cons yL .nil)))
abbrev cC : Ty := .cons yK .nil
abbrev cS : Ty := .cons yK (.cons yI (.cons yL (.cons (.sl (.st cM)) .nil)))
abbrev Mat := Int × Int × Int × List Int × Unit
abbrev Cpx := List (List Int) × Unit
abbrev Shf := List (List Int) × Int × List Int × List Mat × Unit
abbrev Sim := List Int
abbrev dI (x : Int) : Dv := ⟨.int .i64,x⟩
abbrev dL (x : List Int) : Dv := ⟨.sl yI,x⟩
abbrev dLL (x : List (List Int)) : Dv := ⟨.sl yL,x⟩
abbrev dC (x : Cpx) : Dv := ⟨.ptr cC,x⟩
abbrev dM (x : Mat) : Dv := ⟨.ptr cM,x⟩
abbrev dS (x : Shf) : Dv := ⟨.ptr cS,x⟩
abbrev dMs (x : List Mat) : Dv := ⟨.sl (.st cM),x⟩

theorem within_ret (n lo hi : Int) : Ret E n_Z28 [dI n,dI lo,dI hi] ⟨o_Z28,(pb (lo ≤ n ∧ n ≤ hi),())⟩ := by
  refine ret_of ?_
  simp only [run_Z28,Z28.ev]
  refine ev_d (fun h => ev_some ?_) fun h => ev_some ?_
  · rw [pb_dec,pb_congr (show n ≤ hi ↔ lo ≤ n ∧ n ≤ hi by omega)]
  · rw [pb_false (by omega)]

theorem l00In_ret (n lo hi : Int) : Ret E n_Z73 [dI n,dI lo,dI hi] ⟨o_Z73,(pb (lo ≤ n ∧ n ≤ hi),())⟩ := by
  refine ret_of ?_
  simp only [run_Z73,Z73.ev]
  refine ev_d (fun h => ev_some ?_) fun h => ev_some ?_
  · rw [pb_dec,pb_congr (show n ≤ hi ↔ lo ≤ n ∧ n ≤ hi by omega)]
  · rw [pb_false (by omega)]

theorem isVertex_ret (n : Int) : Ret E n_Z24 [dI n] ⟨o_Z24,(pb (0 ≤ n ∧ n ≤ 9),())⟩ := by
  refine ret_of ?_
  simp only [run_Z24,Z24.ev]
  exact ev_call (within_ret _ _ _) ev_rfl

theorem ValidSimplex_1_ret (n : Int) : Ret E n_Z11 [dI n] ⟨o_Z11,(!pb (0 ≤ n ∧ n ≤ 9),())⟩ := by
  refine ret_of ?_
  simp only [run_Z11,Z11.ev]
  exact ev_call (isVertex_ret _) ev_rfl

/-- the list rises -/
def Rises (s : Sim) : Prop := ∀ j,1 ≤ j → j < s.length → s.getD (j - 1) 0 < s.getD j 0

theorem isRising_ret (s : Sim) (hs : Sm yL s) : Ret E n_Z23 [dL s] ⟨o_Z23,(pb (Rises s),())⟩ := by
  have hs1 : s.length ≤ 1048576 := hs.1
  refine ret_of ?_
  simp only [run_Z23,Z23.ev]
  by_cases h0 : s.length = 0
  · refine Ev.start (p := fun φ n => Z23.l0 (mkR (run E (φ 0))) (φ 0) n s 1 = _) 1 ?_ (fun _ _ _ h => h)
    refine loopR 1 (σ := Unit) (L := fun φ n _ => Z23.l0 (mkR (run E (φ 0))) (φ 0) n s 1) (fun _ _ _ _ => rfl) (fun _ => True) (fun _ => _) (fun _ => 0) (fun _ _ _ => ?_) () trivial
    simp only [Z23.l0_succ _ mk_ok]
    refine ev_f (decide_eq_false (by omega)) (ev_some ?_)
    rw [pb_true]
    intro j h1 h2; omega
  · refine Ev.start (p := fun φ n => Z23.l0 (mkR (run E (φ 0))) (φ 0) n s 1 = _) 1 ?_ (fun _ _ _ h => h)
    refine all_pb 1 (L := fun φ n k => Z23.l0 (mkR (run E (φ 0))) (φ 0) n s k) (len := s.length) 1 (by omega) (fun j => s.getD (j - 1) 0 < s.getD j 0) (fun b => some ⟨o_Z23,(b,())⟩) (fun _ _ _ _ => rfl) (fun k h1 h2 hP _ => ?_) (fun k r h1 h2 hP _ ih => ?_) (fun _ => ?_)
    · simp only [Z23.l0_succ _ mk_ok]
      refine ev_t (decide_eq_true (by omega)) ?_
      rw [w64_small (by omega) (by omega),show ((k : Int) - 1) = ((k - 1 : Nat) : Int) by omega]
      refine ev_bind (idx_lt (by omega)) (ev_bind (idx_lt h2) (ev_t (decide_eq_true ?_) ev_rfl))
      simpa [List.getD_eq_getElem?_getD,h2,show k - 1 < s.length by omega] using hP
    · simp only [Z23.l0_succ _ mk_ok]
      refine ev_t (decide_eq_true (by omega)) ?_
      rw [w64_small (by omega) (by omega),show ((k : Int) - 1) = ((k - 1 : Nat) : Int) by omega]
      refine ev_bind (idx_lt (by omega)) (ev_bind (idx_lt h2) (ev_f (decide_eq_false ?_) ?_))
      · simpa [List.getD_eq_getElem?_getD,h2,show k - 1 < s.length by omega] using hP
      · rw [w64_succ (by omega)]; exact ih
    · simp only [Z23.l0_succ _ mk_ok]
      exact ev_f (decide_eq_false (by omega)) ev_rfl

end VeT
